/-
  Jobs that run by the least deadline first: when what they ask for is given, nobody is late. What a server gives at least, whichever ticks of each period it runs in. Local: what is asked for of tasks is no more than a server gives. Local: tasks that are played, by the least deadline first.
-/
import Derived.Test.YtecdcefacdodgaaVsLoop
import Derived.Test.YtecdcefacdodgaaVSup
import Derived.Test.YtecdcefacdodgaaVLocP
set_option linter.unusedSimpArgs false
set_option linter.unusedVariables false
namespace Go.Proofs.Ytecdcefacdodgaa
namespace Edf
open Ads
def sm(f:Nat→Int):Nat→Int
 |0=>0
 |m+1=>sm f m+f m
theorem wT{f g:Nat→Int}:∀{m:Nat},(∀i,i<m→f i≤g i)→sm f m≤sm g m
 |0,_=>Int.le_refl _
 |m+1,h=>by
  have h1:=wT (f:=f) (g:=g) (m:=m) fun i hi=>h i (by omega);have h2:=h m (by omega);simp only[sm];omega
theorem sP{f g:Nat→Int}{m:Nat}(h:∀i,i<m→f i=g i):sm f m=sm g m:=
 Int.le_antisymm (wT fun i hi=>by rw[h i hi];exact Int.le_refl _) (wT fun i hi=>by rw[h i hi];exact Int.le_refl _)
theorem As(f g:Nat→Int):∀m,sm (fun i=>f i+g i) m=sm f m+sm g m
 |0=>rfl
 |m+1=>by
  have:=As f g m;simp only[sm];omega
theorem qo:∀m,sm (fun _=>0) m=0
 |0=>rfl
 |m+1=>by simp only[sm,qo m];rfl
theorem GG{f:Nat→Int}{m:Nat}(h:∀i,i<m→0≤f i):0≤sm f m:=by
 rw[←qo m];exact wT h
theorem J3{f:Nat→Int}:∀{m:Nat},(∀i,i<m→0≤f i)→0<sm f m→∃i,i<m∧0<f i
 |0,_,h=>by simp[sm] at h
 |m+1,h0,h=>by
  by_cases hm:0<f m
  ·exact⟨m,by omega,hm⟩
  ·simp only[sm] at h;obtain⟨i,hi,h1⟩:=J3 (f:=f) (m:=m) (fun i hi=>h0 i (by omega)) (by omega);exact⟨i,by omega,h1⟩
theorem wU(f:Nat→Int)(k:Nat)(a:Int):∀{m:Nat},k<m→sm (fun i=>f i-if i=k then a else 0) m=sm f m-a
 |m+1,h=>by
  by_cases hk:k=m
  ·subst hk;have:sm (fun i=>f i-if i=k then a else 0) k=sm f k:=sP fun i hi=>by rw[if_neg (by omega)];omega
   show sm (fun i=>f i-if i=k then a else 0) k+(f k-if k=k then a else 0)=sm f k+f k-a;rw[this,if_pos rfl];omega
  ·have:=wU f k a (m:=m) (by omega);show sm (fun i=>f i-if i=k then a else 0) m+(f m-if m=k then a else 0)=sm f m+f m-a;rw[this,if_neg (by omega)];omega
theorem PY{f:Nat→Int}{m:Nat}(h:∀i,i<m→0≤f i){k:Nat}(hk:k<m):f k≤sm f m:=by
 have h1:sm (fun i=>if i=k then f k else 0) m≤sm f m:=wT fun i hi=>by
  by_cases he:i=k
  ·rw[if_pos he,he];exact Int.le_refl _
  ·rw[if_neg he];exact h i hi
 have h2:sm (fun i=>if i=k then f k else 0) m=f k:=by
  have:=wU (fun _=>0) k (f k) hk;rw[qo] at this;have h3:sm (fun i=>(0:Int)-if i=k then f k else 0) m+sm (fun i=>if i=k then f k else 0) m=0:=by
   rw[←As];have hz:sm (fun i=>(0-if i=k then f k else 0)+if i=k then f k else 0) m=sm (fun _=>0) m:=sP fun i hi=>by
    by_cases h:i=k
    ·rw[if_pos h];omega
    ·rw[if_neg h];omega
   rw[hz,qo]
  omega
 omega
def gs(runs:Nat→Bool)(s:Nat):Nat→Int
 |0=>0
 |k+1=>gs runs s k+if runs (s+k)=true then 1 else 0
section
variable (m:Nat) (D C P:Nat→Int) (runs:Nat→Bool) (e l n:Nat→Nat→Int)
def eR(u i:Nat):Int:=if n u i≤(u:Nat) then((u:Nat):Int)+D i else e u i
def lR(u i:Nat):Int:=if n u i≤(u:Nat) then C i else l u i
def CD(t:Int)(i:Nat):Int:=if D i≤t then(1+(t-D i)/P i)*C i else 0
structure nA(N:Nat):Prop where
 task:∀i,i<m→1≤C i∧D i≤P i∧1≤P i
 init:∀i,i<m→l 0 i=0
 ends:∀u,u<N→∀i,i<m→e (u+1) i=eR D e n u i
 Jo:∀u,u<N→∀i,i<m→n u i≤(u:Nat)→((u:Nat):Int)+P i≤n (u+1) i
 Jp:∀u,u<N→∀i,i<m→¬n u i≤(u:Nat)→n (u+1) i=n u i
 idle:∀u,u<N→(runs u=false∨∀i,i<m→lR C l n u i≤0)→∀i,i<m→l (u+1) i=lR C l n u i
 run:∀u,u<N→runs u=true→(∃i,i<m∧0<lR C l n u i)→∃k,k<m∧0<lR C l n u k∧(∀i,i<m→0<lR C l n u i→eR D e n u k≤eR D e n u i)∧∀i,i<m→l (u+1) i=lR C l n u i-if i=k then 1 else 0
end
section
variable {m:Nat} {D C P:Nat→Int} {runs:Nat→Bool} {e l n:Nat→Nat→Int} {N:Nat}
theorem nA.cases(p:nA m D C P runs e l n N){u:Nat}(hu:u<N):(∀i,i<m→l (u+1) i=lR C l n u i)∨(runs u=true∧∃k,k<m∧0<lR C l n u k∧(∀i,i<m→0<lR C l n u i→eR D e n u k≤eR D e n u i)∧∀i,i<m→l (u+1) i=lR C l n u i-if i=k then 1 else 0):=by
 cases hr:runs u with
 |false=>exact .inl (p.idle u hu (.inl hr))
 |true=>
  by_cases hex:∃i,i<m∧0<lR C l n u i
  ·exact .inr ⟨rfl,p.run u hu hr hex⟩
  ·refine .inl (p.idle u hu (.inr fun i hi=>?_));by_cases h:lR C l n u i≤0
   ·exact h
   ·exact absurd ⟨i,hi,by omega⟩ hex
theorem nA.inv(p:nA m D C P runs e l n N):∀u,u≤N→∀i,i<m→0≤l u i∧(0<l u i→e u i≤n u i)
 |0,_,i,hi=>by rw[p.init i hi];exact⟨Int.le_refl _,fun h=>absurd h (by omega)⟩
 |u+1,hu,i,hi=>by
  obtain⟨h1,h2⟩:=p.inv u (by omega) i hi;obtain⟨t1,t2,t3⟩:=p.task i hi;have hle:0≤l (u+1) i∧l (u+1) i≤lR C l n u i:=by
   have h0:0≤lR C l n u i:=by unfold lR;split<;>omega
   rcases p.cases (show u<N by omega) with h|⟨-,k,hk,uX,-,h⟩
   ·rw[h i hi];omega
   ·rw[h i hi];by_cases hik:i=k
    ·subst hik;rw[if_pos rfl];omega
    ·rw[if_neg hik];omega
  refine⟨hle.1,fun h=>?_⟩;rw[p.ends u (by omega) i hi];by_cases hn:n u i≤(u:Nat)
  ·have:=p.Jo u (by omega) i hi hn;unfold eR;rw[if_pos hn];omega
  ·have:=p.Jp u (by omega) i hi hn;unfold eR;unfold lR at hle;rw[if_neg hn] at hle⊢;rw[this];exact h2 (by omega)
def bD(m:Nat)(e l:Nat→Nat→Int)(x:Int)(u:Nat):Int:=sm (fun i=>if e u i≤x then l u i else 0) m
def rel(D C:Nat→Int)(n:Nat→Nat→Int)(x:Int)(u i:Nat):Int:=if n u i≤(u:Nat)∧((u:Nat):Int)+D i≤x then C i else 0
theorem nA.after(p:nA m D C P runs e l n N){u:Nat}(hu:u<N){x:Int}(yI:∀i,i<m→0<l u i→((u:Nat):Int)<e u i):
  sm (fun i=>if eR D e n u i≤x then lR C l n u i else 0) m=bD m e l x u+sm (rel D C n x u) m:=by
 unfold bD;rw[←As];refine sP fun i hi=>?_;obtain⟨h1,h2⟩:=p.inv u (by omega) i hi;have h3:=yI i hi;by_cases hn:n u i≤(u:Nat)
 ·have h0:l u i=0:=by
   by_cases h:0<l u i
   ·have:=h2 h;have:=h3 h;omega
   ·omega
  have e1:eR D e n u i=((u:Nat):Int)+D i:=by rw[eR,if_pos hn]
  have l1:lR C l n u i=C i:=by rw[lR,if_pos hn]
  rw[e1,l1,h0];by_cases hx:((u:Nat):Int)+D i≤x
  ·have r1:rel D C n x u i=C i:=by rw[rel,if_pos ⟨hn,hx⟩]
   rw[if_pos hx,r1];split<;>omega
  ·have r1:rel D C n x u i=0:=by rw[rel,if_neg (fun h=>hx h.2)]
   rw[if_neg hx,r1];split<;>omega
 ·have e1:eR D e n u i=e u i:=by rw[eR,if_neg hn]
  have l1:lR C l n u i=l u i:=by rw[lR,if_neg hn]
  have r1:rel D C n x u i=0:=by rw[rel,if_neg (fun h=>hn h.1)]
  rw[e1,l1,r1];omega
theorem nA.tick(p:nA m D C P runs e l n N){u:Nat}(hu:u<N){x:Int}(yI:∀i,i<m→0<l u i→((u:Nat):Int)<e u i)(hpos:0<bD m e l x (u+1)):
  bD m e l x (u+1)=bD m e l x u+sm (rel D C n x u) m-if runs u=true then 1 else 0:=by
 rw[←p.after hu (x:=x) yI];have hinv:=p.inv (u+1) (by omega);obtain⟨i,hi,hi2⟩:=J3 (fun i hi=>by split;exact(hinv i hi).1;exact Int.le_refl _) hpos;have Xg:e (u+1) i≤x∧0<l (u+1) i:=by
  by_cases h:e (u+1) i≤x
  ·rw[if_pos h] at hi2;exact⟨h,hi2⟩
  ·rw[if_neg h] at hi2;omega
 rw[p.ends u hu i hi] at Xg;have he:bD m e l x (u+1)=sm (fun i=>if eR D e n u i≤x then l (u+1) i else 0) m:=sP fun i hi=>by rw[p.ends u hu i hi]
 rw[he];cases hr:runs u with
 |false=>
  have:=p.idle u hu (.inl hr);simp only[Bool.false_eq_true,if_false,Int.sub_zero];exact sP fun i hi=>by rw[this i hi]
 |true=>
  have hex:∃i,i<m∧0<lR C l n u i:=by
   rcases p.cases hu with h|⟨-,k,hk,uX,-⟩
   ·exact⟨i,hi,by rw[←h i hi];exact Xg.2⟩
   ·exact⟨k,hk,uX⟩
  obtain⟨k,hk,uX,hk2,oq⟩:=p.run u hu hr hex;have hli:0<lR C l n u i:=by
   have:=oq i hi;by_cases hik:i=k
   ·subst hik;exact uX
   ·rw[if_neg hik] at this;omega
  have TF:eR D e n u k≤x:=by have:=hk2 i hi hli;omega
  simp only[if_true];rw[←wU _ k 1 hk];refine sP fun j hj=>?_;rw[oq j hj];by_cases Xi:j=k
  ·subst Xi;rw[if_pos TF,if_pos TF,if_pos rfl]
  ·rw[if_neg Xi];split<;>omega
def rs(D C:Nat→Int)(n:Nat→Nat→Int)(x:Int)(s:Nat)(i:Nat):Nat→Int
 |0=>0
 |k+1=>rs D C n x s i k+rel D C n x (s+k) i
theorem nA.count(p:nA m D C P runs e l n N){x:Int}{s i:Nat}(hi:i<m):∀k,s+k≤N→∃c:Nat,rs D C n x s i k=c*C i∧(c=0∨(((s:Nat):Int)+c*P i≤n (s+k) i∧((s:Nat):Int)+((c:Nat)-1:Int)*P i+D i≤x))
 |0,_=>⟨0,by simp[rs],.inl rfl⟩
 |k+1,h=>by
  obtain⟨c,h1,h2⟩:=p.count (x:=x) (s:=s) hi k (by omega);obtain⟨t1,t2,t3⟩:=p.task i hi;by_cases hn:n (s+k) i≤((s+k:Nat):Int)
  ·have hx1:=p.Jo (s+k) (by omega) i hi hn;by_cases hx:((s+k:Nat):Int)+D i≤x
   ·refine⟨c+1,?_,.inr ⟨?_,?_⟩⟩
    ·rw[rs,h1,rel,if_pos ⟨hn,hx⟩];rw[show((c+1:Nat):Int)=(c:Int)+1 by omega,Int.add_mul];omega
    ·rw[show((c+1:Nat):Int)=(c:Int)+1 by omega,Int.add_mul];show _≤n (s+k+1) i;rcases h2 with rfl|⟨h2,-⟩
     ·simp;omega
     ·omega
    ·rw[show((c+1:Nat):Int)-1=(c:Int) by omega];rcases h2 with rfl|⟨h2,-⟩
     ·simp;omega
     ·omega
   ·refine⟨c,by rw[rs,h1,rel,if_neg (fun h=>hx h.2)];omega,?_⟩;rcases h2 with rfl|⟨h2,h3⟩
    ·exact .inl rfl
    ·exact .inr ⟨by show _≤n (s+k+1) i;omega,h3⟩
  ·have EZ:=p.Jp (s+k) (by omega) i hi hn;refine⟨c,by rw[rs,h1,rel,if_neg (fun h=>hn h.1)];omega,?_⟩;rcases h2 with rfl|⟨h2,h3⟩
   ·exact .inl rfl
   ·exact .inr ⟨by show _≤n (s+k+1) i;omega,h3⟩
theorem nA.asked(p:nA m D C P runs e l n N){x:Int}{s i k:Nat}(hi:i<m)(h:s+k≤N):rs D C n x s i k≤CD D C P (x-(s:Nat)) i:=by
 obtain⟨c,h1,h2⟩:=p.count (x:=x) hi k h;obtain⟨t1,t2,t3⟩:=p.task i hi;rw[h1,CD];rcases h2 with rfl|⟨-,h2⟩
 ·split
  ·rename_i hd;have:=Int.ediv_nonneg (show 0≤x-(s:Nat)-D i by omega) (show 0≤P i by omega);have:=Int.mul_nonneg (show 0≤1+(x-(s:Nat)-D i)/P i by omega) (show 0≤C i by omega);simp;exact this
  ·simp
 ·by_cases hc:c=0
  ·subst hc;split
   ·have:=Int.ediv_nonneg (show 0≤x-(s:Nat)-D i by omega) (show 0≤P i by omega);have:=Int.mul_nonneg (show 0≤1+(x-(s:Nat)-D i)/P i by omega) (show 0≤C i by omega);simp;exact this
   ·simp
  ·have h3:0≤((c:Nat)-1:Int)*P i:=Int.mul_nonneg (by omega) (by omega);rw[if_pos (by omega)];refine Int.mul_le_mul_of_nonneg_right ?_ (by omega);have:=(Int.le_ediv_iff_mul_le (show 0<P i by omega)).2 (show((c:Nat)-1:Int)*P i≤x-(s:Nat)-D i by omega);omega
theorem nA.span(p:nA m D C P runs e l n N){x:Int}{s:Nat}(h0:bD m e l x s=0):∀k,s+k≤N→(∀u,u<s+k→∀i,i<m→0<l u i→((u:Nat):Int)<e u i)→(∀j,0<j→j≤k→0<bD m e l x (s+j))→
  bD m e l x (s+k)=sm (fun i=>rs D C n x s i k) m-gs runs s k
 |0,_,_,_=>by
  rw[Nat.add_zero,h0,gs,show(fun i=>rs D C n x s i 0)=fun _=>0 from rfl,qo];rfl
 |k+1,h,hm,hp=>by
  have ih:=p.span h0 k (by omega) (fun u hu=>hm u (by omega)) (fun j h1 h2=>hp j h1 (by omega));have ht:=p.tick (u:=s+k) (by omega) (x:=x) (hm (s+k) (by omega)) (hp (k+1) (by omega) (Nat.le_refl _));show bD m e l x (s+k+1)=_;rw[ht,ih,gs];have:sm (fun i=>rs D C n x s i (k+1)) m=sm (fun i=>rs D C n x s i k) m+sm (rel D C n x (s+k)) m:=by
   rw[←As];exact sP fun i hi=>rfl
  rw[this];omega
theorem nA.keeps(p:nA m D C P runs e l n N)(hs:∀s k:Nat,s+k≤N→0<sm (CD D C P ((k:Nat):Int)) m→sm (CD D C P ((k:Nat):Int)) m≤gs runs s k)(hg:∀s k,0≤gs runs s k):
  ∀u,u≤N→∀i,i<m→0<l u i→((u:Nat):Int)<e u i:=by
 intro u;induction u using Nat.strongRecOn with
 |_ u ih=>
  intro hu i hi hl;by_cases yH:((u:Nat):Int)<e u i
  ·exact yH
  exfalso;have Qw:0<bD m e l ((u:Nat):Int) u:=by
   have hinv:=p.inv u hu;have h1:=PY (f:=fun i=>if e u i≤((u:Nat):Int) then l u i else 0) (m:=m) (fun i hi=>by split;exact(hinv i hi).1;exact Int.le_refl _) hi;rw[if_pos (by omega)] at h1;unfold bD;omega
  have NA:∀v,v≤N→0≤bD m e l ((u:Nat):Int) v:=fun v hv=>GG fun i hi=>by split;exact(p.inv v hv i hi).1;exact Int.le_refl _
  have h00:bD m e l ((u:Nat):Int) 0=0:=by
   have hz:bD m e l ((u:Nat):Int) 0=sm (fun _=>0) m:=sP fun i hi=>by rw[p.init i hi];split<;>rfl
   rw[hz,qo]
  obtain⟨k,hk,hk2⟩:=least (p:=fun k=>k≤u∧bD m e l ((u:Nat):Int) (u-k)=0) ⟨u,Nat.le_refl _,by rw[Nat.sub_self];exact h00⟩;obtain⟨hku,hk0⟩:=hk;have hsp:=p.span hk0 k (by omega) (fun v hv i hi h=>ih v (by omega) (by omega) i hi h) (fun j j1 j2=>by
   have h1:=hk2 (k-j) (by omega);have h2:=NA (u-k+j) (by omega);rw[show u-k+j=u-(k-j) by omega] at h2⊢;by_cases h3:bD m e l ((u:Nat):Int) (u-(k-j))=0
   ·exact absurd ⟨by omega,h3⟩ h1
   ·omega)
  rw[show u-k+k=u by omega] at hsp;have hle:sm (fun i=>rs D C n ((u:Nat):Int) (u-k) i k) m≤sm (CD D C P ((k:Nat):Int)) m:=wT fun i hi=>by
   have:=p.asked (x:=((u:Nat):Int)) (s:=u-k) (k:=k) hi (by omega)
   rwa [show((u:Nat):Int)-((u-k:Nat):Int)=((k:Nat):Int) by omega] at this
  have hgk:=hg (u-k) k;by_cases hd:0<sm (CD D C P ((k:Nat):Int)) m
  ·have:=hs (u-k) k (by omega) hd;omega
  ·omega
theorem kN(runs:Nat→Bool)(s:Nat):∀k,0≤gs runs s k
 |0=>Int.le_refl _
 |k+1=>by
  have:=kN runs s k;rw[gs];split<;>omega
end
end Edf
end Go.Proofs.Ytecdcefacdodgaa
set_option linter.unusedSimpArgs false
set_option linter.unusedVariables false
namespace Go.Proofs.Ytecdcefacdodgaa
namespace Edf
open Ads
theorem tB(runs:Nat→Bool)(s a:Nat):∀b,gs runs s (a+b)=gs runs s a+gs runs (s+a) b
 |0=>by simp[gs]
 |b+1=>by
  rw[show a+(b+1)=a+b+1 by omega,gs,gs,tB runs s a b,show s+(a+b)=s+a+b by omega];omega
theorem Ih(runs:Nat→Bool)(s:Nat):∀k,gs runs s k≤(k:Nat)
 |0=>Int.le_refl _
 |k+1=>by
  have:=Ih runs s k;rw[gs];split<;>omega
theorem Bx{runs:Nat→Bool}{P B M:Nat}(hb:∀q,(q+1)*P≤M→gs runs (q*P) P=(B:Nat)):∀q,q*P≤M→gs runs 0 (q*P)=(q:Int)*(B:Nat)
 |0,_=>by simp[gs]
 |q+1,h=>by
  have h1:(q+1)*P=q*P+P:=Nat.succ_mul q P;have ih:=Bx hb q (by omega);rw[h1,tB,ih,Nat.zero_add,hb q h];rw[show((q+1:Nat):Int)=(q:Int)+1 by omega,Int.add_mul];omega
theorem EP{runs:Nat→Bool}{P B M:Nat}(hP:1≤P)(hB:B≤P)(hb:∀q,(q+1)*P≤M→gs runs (q*P) P=(B:Nat))(hM:P∣M){x:Nat}(hx:x≤M):
  ∃q r:Nat,x=q*P+r∧r<P∧(q:Int)*(B:Nat)+max 0 ((r:Int)-((P:Nat)-(B:Nat)))≤gs runs 0 x∧gs runs 0 x≤(q:Int)*(B:Nat)+min (r:Int) (B:Nat):=by
 have Dv:=Nat.div_add_mod x P;have hr:=Nat.mod_lt x (show 0<P by omega);refine⟨x/P,x%P,by rw[Nat.mul_comm] at Dv;omega,hr,?_⟩;have hxq:x=x/P*P+x%P:=by rw[Nat.mul_comm] at Dv;omega
 generalize x/P=q at*;generalize x%P=r at*;subst hxq;have h0:=Bx hb q (by omega);rw[tB,h0,Nat.zero_add];have g1:=kN runs (q*P) r;have g2:=Ih runs (q*P) r;by_cases GZ:r=0
 ·subst GZ;simp only[gs];omega
 ·have R7:(q+1)*P≤M:=by
   obtain⟨c,hc⟩:=hM;subst hc;have:q<c:=by
    by_cases h:q<c
    ·exact h
    ·have:=Nat.mul_le_mul_right P (show c≤q by omega);rw[Nat.mul_comm P c] at hx;omega
   rw[Nat.mul_comm P c];exact Nat.mul_le_mul_right P this
  have h3:=hb q R7;have h4:=tB runs (q*P) r (P-r);rw[show r+(P-r)=P by omega,h3] at h4;have g3:=kN runs (q*P+r) (P-r);have g4:=Ih runs (q*P+r) (P-r);omega
theorem Aw{runs:Nat→Bool}{P B M:Nat}(hP:1≤P)(hB1:1≤B)(hB:B≤P)(hb:∀q,(q+1)*P≤M→gs runs (q*P) P=(B:Nat))(hM:P∣M){s k:Nat}(h:s+k≤M):
  Ir.eC (P:Nat) (B:Nat) (k:Nat)≤gs runs s k:=by
 have NA:=kN runs s k;unfold Ir.eC;by_cases hI:((k:Nat):Int)<(P:Nat)-(B:Nat)
 ·rw[if_pos hI];exact NA
 rw[if_neg hI];obtain⟨a,r,ha,hr,a1,a2⟩:=EP hP hB hb hM (show s≤M by omega);obtain⟨b,t,hb',ht,b1,b2⟩:=EP hP hB hb hM h;have Vn:=tB runs 0 s k;rw[Nat.zero_add] at Vn;have hab:a≤b:=by
  by_cases h:a≤b
  ·exact h
  ·have:=Nat.mul_le_mul_right P (show b+1≤a by omega);rw[Nat.succ_mul] at this;omega
 obtain⟨c,rfl⟩:∃c,b=a+c:=⟨b-a,by omega⟩;rw[Nat.add_mul] at hb';rw[show((a+c:Nat):Int)=(a:Int)+c by omega,Int.add_mul] at b1 b2;have hk:((k:Nat):Int)=(c:Int)*(P:Nat)+t-r:=by
  have:k+r=c*P+t:=by omega
  have h2:((k+r:Nat):Int)=((c*P+t:Nat):Int):=by rw[this]
  rw[Int.natCast_add,Int.natCast_add,Int.natCast_mul] at h2;omega
 have Rn:(0:Int)<(P:Nat):=by omega
 have hw1:=Int.ediv_mul_le (((k:Nat):Int)-((P:Nat)-(B:Nat))) (show((P:Nat):Int)≠0 by omega);have Qy:=Int.lt_ediv_add_one_mul_self (((k:Nat):Int)-((P:Nat)-(B:Nat))) Rn;have hw0:=Int.ediv_nonneg (show 0≤((k:Nat):Int)-((P:Nat)-(B:Nat)) by omega) (show(0:Int)≤(P:Nat) by omega);generalize(((k:Nat):Int)-((P:Nat)-(B:Nat)))/((P:Nat):Int)=w at*;rw[Int.add_mul] at Qy;have hwc:w=(c:Int)∨w=(c:Int)-1∨w=(c:Int)-2:=by
  have h1:w≤c:=by
   by_cases h:w≤c
   ·exact h
   ·have:=Int.mul_le_mul_of_nonneg_right (show(c:Int)+1≤w by omega) (show(0:Int)≤(P:Nat) by omega);rw[Int.add_mul] at this;omega
  have h2:(c:Int)-2≤w:=by
   by_cases h:(c:Int)-2≤w
   ·exact h
   ·have:=Int.mul_le_mul_of_nonneg_right (show w≤(c:Int)-3 by omega) (show(0:Int)≤(P:Nat) by omega);rw[Int.sub_mul] at this;omega
  omega
 rcases hwc with rfl|rfl|rfl
 ·generalize(c:Int)*(P:Nat)=X at*;generalize(c:Int)*(B:Nat)=Y at*;omega
 ·rw[Int.sub_mul] at hw1 Qy⊢;rw[Int.sub_mul];generalize(c:Int)*(P:Nat)=X at*;generalize(c:Int)*(B:Nat)=Y at*;omega
 ·rw[Int.sub_mul] at hw1 Qy⊢;rw[Int.sub_mul];generalize(c:Int)*(P:Nat)=X at*;generalize(c:Int)*(B:Nat)=Y at*;omega
end Edf
end Go.Proofs.Ytecdcefacdodgaa
set_option maxRecDepth 100000
set_option linter.unusedSimpArgs false
set_option linter.unusedVariables false
namespace Go.Proofs.Ytecdcefacdodgaa
open Go Ads
namespace Ir
open Edf
def G2:Tk:=⟨1,1,1,0,0,0,0,0⟩
def tD(ts:List Tk)(i:Nat):Int:=(ts.getD i G2).d
def tC(ts:List Tk)(i:Nat):Int:=(ts.getD i G2).w
def tP(ts:List Tk)(i:Nat):Int:=(ts.getD i G2).p
theorem Cn(f:Nat→Int):∀m,sm f (m+1)=f 0+sm (fun i=>f (i+1)) m
 |0=>by simp[sm]
 |m+1=>by
  have:=Cn f m;rw[sm,this,sm];omega
theorem EH{n:Int}(h0:0≤n):∀(ts:List Tk) (a:List Int),a.length=ts.length→(∀t,t∈ts→sV t)→(∀m,m∈a→0≤m)→sm (CD (tD ts) (tC ts) (tP ts) n) ts.length≤(dg (bX n) ts a).sum
 |[],a,_,_,_=>by simp[dg,sm]
 |t::ts,[],hl,_,_=>by simp at hl
 |t::ts,m::a,hl,ho,hm=>by
  have ih:=EH h0 ts a (by simpa using hl) (fun u hu=>ho u (List.mem_cons_of_mem _ hu)) (fun u hu=>hm u (List.mem_cons_of_mem _ hu));obtain⟨o1,o2,o3,o4⟩:=ho t List.mem_cons_self;have hm0:=hm m List.mem_cons_self;have hj:0≤bX n t:=by
   unfold bX;split
   ·omega
   ·have:=Int.ediv_nonneg (a:=n-t.d) (b:=t.p) (by omega) (by omega);omega
  rw[List.length_cons,Cn];have e0:CD (tD (t::ts)) (tC (t::ts)) (tP (t::ts)) n 0=bX n t*t.w:=by
   show(if t.d≤n then(1+(n-t.d)/t.p)*t.w else 0)=_;unfold bX;by_cases h:t.d≤n
   ·rw[if_pos h,if_neg (by omega)]
   ·rw[if_neg h,if_pos (by omega)];simp
  have e1:sm (fun i=>CD (tD (t::ts)) (tC (t::ts)) (tP (t::ts)) n (i+1)) ts.length=sm (CD (tD ts) (tC ts) (tP ts) n) ts.length:=sP fun i hi=>rfl;rw[e0,e1];show _≤(bX n t*(t.w+m)::dg (bX n) ts a).sum;rw[List.sum_cons];have:bX n t*t.w≤bX n t*(t.w+m):=Int.mul_le_mul_of_nonneg_left (by omega) hj;omega
theorem DT{l:List Pt}(h:aB l=0){i:Nat}(hi:i<l.length)(IL:(cB l (i:Nat)).2=0)(n:Nat)(hn:n≤1048576)(hpos:0<sm (CD (tD l[i].ts) (tC l[i].ts) (tP l[i].ts) ((n:Nat):Int)) l[i].ts.length):
  sm (CD (tD l[i].ts) (tC l[i].ts) (tP l[i].ts) ((n:Nat):Int)) l[i].ts.length≤eC l[i].bV l[i].cE ((n:Nat):Int):=by
 obtain⟨h1,h2⟩:=uD h hi (n:=((n:Nat):Int)) (by omega) (by omega);have h3:=EH (n:=((n:Nat):Int)) (by omega) l[i].ts (cO l i) (m6 hi) (mM h (List.getElem_mem hi)) (fun m hm=>(oW h i hi m hm).1);have h4:=JB h hi IL n hn (by omega);have h5:=ru (l:=l) (i:Nat) ((n:Nat):Int) l[i].ts l[i].ts.length (Nat.le_refl _);omega
def Vh(x:Int)(i:Nat):Bool:=IntKind.i64.wrap ((BitVec.ofInt 64 (x.fdiv (2^(min (i%20) 64)))&&&BitVec.ofInt 64 1).toNat:Int)==1
def Nc(P:Int)(x left:Int)(i:Nat):Bool:=decide (0<left)&&(decide (P-(i:Nat)≤left)||Vh x i)
def H7(P x:Int)(s:List Bool×Int)(i:Nat):List Bool×Int:=(s.1++[Nc P x s.2 i],if Nc P x s.2 i=true then s.2-1 else s.2)
def GR(P x:Int)(s:List Bool×Int):Nat→List Bool×Int
 |0=>s
 |i+1=>H7 P x (GR P x s i) i
def Na(how:List Int)(P:Int)(n:Nat):Int:=match how with
 |[]=>0
 |a::r=>((a::r).getD ((((n:Nat):Int)/P%((a::r).length:Nat)).toNat) 0)%1048576
def tu(how:List Int)(P B:Int):Nat→List Bool
 |0=>[]
 |q+1=>(GR P (Na how P (tu how P B q).length) (tu how P B q,B) P.toNat).1
def uM:List Bool→Int
 |[]=>0
 |b::l=>(if b=true then 1 else 0)+uM l
theorem A8:∀l m:List Bool,uM (l++m)=uM l+uM m
 |[],m=>by simp[uM]
 |b::l,m=>by simp only[List.cons_append,uM,A8 l m];omega
theorem HZ(P x B:Int)(R:List Bool)(hB:0≤B∧B≤P):∀i:Nat,(i:Int)≤P→∃W:List Bool,(GR P x (R,B) i).1=R++W∧W.length=i∧uM W=B-(GR P x (R,B) i).2∧0≤(GR P x (R,B) i).2∧(GR P x (R,B) i).2≤P-(i:Nat)∧(GR P x (R,B) i).2≤B
 |0,_=>⟨[],by simp[GR],rfl,by simp[GR,uM],hB.1,by simp[GR];exact hB.2,Int.le_refl _⟩
 |i+1,h=>by
  obtain⟨W,h1,h2,h3,h4,h5,h6⟩:=HZ P x B R hB i (by omega);rw[GR];generalize GR P x (R,B) i=s at*;obtain⟨s1,s2⟩:=s;simp only at h1 h3 h4 h5 h6;refine⟨W++[Nc P x s2 i],by simp only[H7,h1,List.append_assoc],by simp[h2],?_⟩;rw[A8];simp only[H7,uM];have hc:P-(i:Nat)≤s2→0<s2→Nc P x s2 i=true:=fun h1 h2=>by simp[Nc,h1,h2]
  have hp:Nc P x s2 i=true→0<s2:=fun h=>by simp[Nc] at h;omega
  cases hg:Nc P x s2 i with
  |true=>
   have:=hp hg;simp only[if_true];omega
  |false=>
   simp only[Bool.false_eq_true,if_false];have:¬(P-(i:Nat)≤s2∧0<s2):=fun h=>by rw[hc h.1 h.2] at hg;cases hg
   omega
theorem tv(how:List Int)(P B:Int)(hB:0≤B∧B≤P)(q:Nat):∃W:List Bool,tu how P B (q+1)=tu how P B q++W∧W.length=P.toNat∧uM W=B:=by
 obtain⟨W,h1,h2,h3,h4,h5,h6⟩:=HZ P (Na how P (tu how P B q).length) B (tu how P B q) hB P.toNat (by omega);exact⟨W,h1,h2,by omega⟩
theorem Bm(how:List Int)(P B:Int)(hB:0≤B∧B≤P):∀q,(tu how P B q).length=q*P.toNat
 |0=>by simp[tu]
 |q+1=>by
  obtain⟨W,h1,h2,-⟩:=tv how P B hB q;rw[h1,List.length_append,Bm how P B hB q,h2,Nat.succ_mul]
def rE(W:List Bool)(u:Nat):Bool:=W.getD u false
theorem Ii:∀(R W T:List Bool),gs (rE (R++W++T)) R.length W.length=uM W
 |R,[],T=>rfl
 |R,b::W,T=>by
  have ih:=Ii (R++[b]) W T;have e:R++[b]++W++T=R++(b::W)++T:=by simp
  rw[e] at ih;have h1:=tB (rE (R++(b::W)++T)) R.length 1 W.length;rw[List.length_cons,show W.length+1=1+W.length by omega,h1];have h2:gs (rE (R++(b::W)++T)) R.length 1=if b=true then 1 else 0:=by
   have:rE (R++(b::W)++T) R.length=b:=by
    rw[rE,List.getD_eq_getElem?_getD,List.append_assoc,List.getElem?_append_right (Nat.le_refl _)];simp
   show(0:Int)+(if rE (R++(b::W)++T) (R.length+0)=true then 1 else 0)=_;simp only[Nat.add_zero,this,Int.zero_add]
  rw[h2,uM];rw[List.length_append] at ih;rw[←ih];rfl
theorem Bn(how:List Int)(P B:Int)(hB:0≤B∧B≤P)(q:Nat):∀k,∃T,tu how P B (q+k)=tu how P B q++T
 |0=>⟨[],by simp⟩
 |k+1=>by
  obtain⟨T,h⟩:=Bn how P B hB q k;obtain⟨W,h1,-⟩:=tv how P B hB (q+k);exact⟨T++W,by rw[←Nat.add_assoc,h1,h,List.append_assoc]⟩
theorem Nf(how:List Int)(P B Q:Nat)(hB:B≤P)(hP:1≤P):∀q,(q+1)*P≤(tu how P B Q).length→gs (rE (tu how P B Q)) (q*P) P=(B:Nat):=by
 intro q hq;have hb:(0:Int)≤(B:Nat)∧((B:Nat):Int)≤(P:Nat):=by omega
 have hl:=fun q=>Bm how (P:Nat) (B:Nat) hb q;simp only[Int.toNat_natCast] at hl;rw[hl] at hq;have hqQ:q+1≤Q:=by
  by_cases h:q+1≤Q
  ·exact h
  ·have:=Nat.mul_le_mul_right P (show Q+1≤q+1 by omega);rw[Nat.succ_mul] at this;omega
 obtain⟨W,h1,h2,h3⟩:=tv how (P:Nat) (B:Nat) hb q;obtain⟨T,h4⟩:=Bn how (P:Nat) (B:Nat) hb (q+1) (Q-(q+1));rw[show q+1+(Q-(q+1))=Q by omega,h1] at h4;have:=Ii (tu how (P:Nat) (B:Nat) q) W T;rw[hl,h2,h3,←h4] at this;simpa using this
end Ir
end Go.Proofs.Ytecdcefacdodgaa
set_option maxRecDepth 100000
set_option linter.unusedSimpArgs false
set_option linter.unusedVariables false
namespace Go.Proofs.Ytecdcefacdodgaa
open Go Ads
namespace Ir
open Edf
structure LS where
 j:List (Int×Int)
 n:List Int
 d:Nat
def jE(J:List (Int×Int))(i:Nat):Int:=(J.getD i (0,0)).1
def jL(J:List (Int×Int))(i:Nat):Int:=(J.getD i (0,0)).2
def nX(n:List Int)(i:Nat):Int:=n.getD i 0
theorem E4{J:List (Int×Int)}{i:Nat}(h:i<J.length):jE J i=J[i].1:=by rw[jE,List.getD_eq_getElem?_getD,List.getElem?_eq_getElem h];rfl
theorem uv{J:List (Int×Int)}{i:Nat}(h:i<J.length):jL J i=J[i].2:=by rw[jL,List.getD_eq_getElem?_getD,List.getElem?_eq_getElem h];rfl
theorem SC{n:List Int}{i:Nat}(h:i<n.length):nX n i=n[i]:=by rw[nX,List.getD_eq_getElem?_getD,List.getElem?_eq_getElem h];rfl
theorem vW{J:List (Int×Int)}{k:Nat}(h:k<J.length)(x:Int×Int)(i:Nat):jE (J.set k x) i=if i=k then x.1 else jE J i:=by
 simp only[jE,List.getD_eq_getElem?_getD,List.getElem?_set];by_cases hi:i=k
 ·subst hi;simp[h]
 ·rw[if_neg (by omega),if_neg hi]
theorem vX{J:List (Int×Int)}{k:Nat}(h:k<J.length)(x:Int×Int)(i:Nat):jL (J.set k x) i=if i=k then x.2 else jL J i:=by
 simp only[jL,List.getD_eq_getElem?_getD,List.getElem?_set];by_cases hi:i=k
 ·subst hi;simp[h]
 ·rw[if_neg (by omega),if_neg hi]
theorem DK{n:List Int}{k:Nat}(h:k<n.length)(x:Int)(i:Nat):nX (n.set k x) i=if i=k then x else nX n i:=by
 simp only[nX,List.getD_eq_getElem?_getD,List.getElem?_set];by_cases hi:i=k
 ·subst hi;simp[h]
 ·rw[if_neg (by omega),if_neg hi]
def extra(md:Int)(lt:List Int)(d:Nat):Int:=match lt with
 |[]=>0
 |a::r=>((a::r).getD (d%(a::r).length) 0)%md
theorem vD{md:Int}(h:0<md)(lt:List Int)(d:Nat):0≤extra md lt d∧extra md lt d<md:=by
 unfold extra;split
 ·omega
 ·exact⟨Int.emod_nonneg _ (by omega),Int.emod_lt_of_pos _ h⟩
section
variable (md:Int) (ts:List Tk) (lt:List Int)
def wJ(u:Nat)(S:LS)(i:Nat):LS:=if nX S.n i≤(u:Nat) then⟨S.j.set i (((u:Nat):Int)+tD ts i,tC ts i),S.n.set i (((u:Nat):Int)+tP ts i+extra md lt S.d),S.d+1⟩ else S
def jW(u:Nat)(S:LS):Nat→LS
 |0=>S
 |i+1=>wJ md ts lt u (jW u S i) i
def de(J:List (Int×Int)):Nat→Int
 |0=>-1
 |i+1=>if 0<jL J i∧(de J i<0∨jE J i<jE J (de J i).toNat) then((i:Nat):Int) else de J i
def oM(m:Nat)(J:List (Int×Int))(run:Bool):List (Int×Int):=if run=true∧0≤de J m then J.set (de J m).toNat (jE J (de J m).toNat,jL J (de J m).toNat-1) else J
def SP(runs:Nat→Bool)(u:Nat)(S:LS):LS:=⟨oM ts.length (jW md ts lt u S ts.length).j (runs u),(jW md ts lt u S ts.length).n,(jW md ts lt u S ts.length).d⟩
def St(runs:Nat→Bool):Nat→LS
 |0=>⟨List.replicate ts.length (0,0),List.replicate ts.length 0,0⟩
 |u+1=>SP md ts lt runs u (St runs u)
end
def Fz(m:Nat)(S:LS):Prop:=S.j.length=m∧S.n.length=m
section
variable {md:Int} {ts:List Tk} {lt:List Int}
theorem Gt{m u i:Nat}{S:LS}(h:Fz m S):Fz m (wJ md ts lt u S i):=by
 unfold wJ;split
 ·exact⟨by simpa using h.1,by simpa using h.2⟩
 ·exact h
theorem sA{m u:Nat}{S:LS}(h:Fz m S):∀i,Fz m (jW md ts lt u S i)
 |0=>h
 |i+1=>Gt (sA h i)
theorem JK{u:Nat}{S:LS}:∀i,(jW md ts lt u S i).d≤S.d+i
 |0=>Nat.le_refl _
 |i+1=>by
  have:=JK (u:=u) (S:=S) i;rw[jW,wJ];split
  ·show _+1≤_;omega
  ·omega
theorem m9{m u:Nat}{S:LS}(Nz:0<md)(h:Fz m S)(i:Nat):∀k,k≤m→
  (jE (jW md ts lt u S k).j i=if i<k∧nX S.n i≤(u:Nat) then((u:Nat):Int)+tD ts i else jE S.j i)∧
  (jL (jW md ts lt u S k).j i=if i<k∧nX S.n i≤(u:Nat) then tC ts i else jL S.j i)∧
  ((i<k∧nX S.n i≤(u:Nat)→((u:Nat):Int)+tP ts i≤nX (jW md ts lt u S k).n i)∧(¬(i<k∧nX S.n i≤(u:Nat))→nX (jW md ts lt u S k).n i=nX S.n i))
 |0,_=>by
  refine⟨by rw[if_neg (by omega)];rfl,by rw[if_neg (by omega)];rfl,fun h=>by omega,fun _=>rfl⟩
 |k+1,hk=>by
  obtain⟨h1,h2,h3,h4⟩:=m9 (u:=u) Nz h i k (by omega);have hok:=sA (md:=md) (ts:=ts) (lt:=lt) (u:=u) h k;have hnk:∀(hik:i=k),nX (jW md ts lt u S k).n i=nX S.n i:=fun hik=>h4 (by omega);rw[jW];generalize jW md ts lt u S k=R at*;unfold wJ;have hex:=vD Nz lt R.d;by_cases hn:nX R.n k≤(u:Nat)
  ·rw[if_pos hn];simp only;rw[vW (by rw[hok.1];omega),vX (by rw[hok.1];omega),DK (by rw[hok.2];omega)];by_cases hik:i=k
   ·subst hik;have:=hnk rfl;rw[if_pos rfl,if_pos rfl,if_pos rfl,if_pos (by omega),if_pos (by omega)];exact⟨rfl,rfl,fun _=>by omega,fun hh=>by omega⟩
   ·rw[if_neg hik,if_neg hik,if_neg hik,h1,h2];have e:(i<k+1∧nX S.n i≤(u:Nat))↔(i<k∧nX S.n i≤(u:Nat)):=by omega
    simp only[e];exact⟨trivial,trivial,h3,h4⟩
  ·rw[if_neg hn];by_cases hik:i=k
   ·subst hik;have:=hnk rfl;rw[h1,h2,if_neg (by omega),if_neg (by omega),if_neg (by omega),if_neg (by omega)];exact⟨rfl,rfl,fun hh=>by omega,fun _=>hnk rfl⟩
   ·rw[h1,h2];have e:(i<k+1∧nX S.n i≤(u:Nat))↔(i<k∧nX S.n i≤(u:Nat)):=by omega
    simp only[e];exact⟨trivial,trivial,h3,h4⟩
theorem jH(J:List (Int×Int)):∀m,(de J m<0∧∀i,i<m→jL J i≤0)∨∃k:Nat,de J m=(k:Nat)∧k<m∧0<jL J k∧∀i,i<m→0<jL J i→jE J k≤jE J i
 |0=>.inl ⟨by show(-1:Int)<0;decide,fun i hi=>by omega⟩
 |m+1=>by
  rw[de];rcases jH J m with⟨h1,h2⟩|⟨k,h1,h2,h3,h4⟩
  ·by_cases hl:0<jL J m
   ·rw[if_pos ⟨hl,.inl h1⟩];refine .inr ⟨m,rfl,by omega,hl,fun i hi Dx=>?_⟩;by_cases Dy:i=m
    ·subst Dy;exact Int.le_refl _
    ·have:=h2 i (by omega);omega
   ·rw[if_neg (fun h=>hl h.1)];refine .inl ⟨h1,fun i hi=>?_⟩;by_cases Dy:i=m
    ·subst Dy;omega
    ·exact h2 i (by omega)
  ·rw[h1,show((k:Nat):Int).toNat=k by simp];by_cases hl:0<jL J m∧(((k:Nat):Int)<0∨jE J m<jE J k)
   ·rw[if_pos hl];have hlt:jE J m<jE J k:=by
     rcases hl.2 with h|h
     ·omega
     ·exact h
    refine .inr ⟨m,rfl,by omega,hl.1,fun i hi Dx=>?_⟩;by_cases Dy:i=m
    ·subst Dy;exact Int.le_refl _
    ·have:=h4 i (by omega) Dx;omega
   ·rw[if_neg hl];refine .inr ⟨k,rfl,by omega,h3,fun i hi Dx=>?_⟩;by_cases Dy:i=m
    ·subst Dy;by_cases h:jE J i<jE J k
     ·exact absurd ⟨Dx,.inr h⟩ hl
     ·omega
    ·exact h4 i (by omega) Dx
theorem HT(m:Nat)(J:List (Int×Int))(run:Bool):(oM m J run).length=J.length:=by
 unfold oM;split
 ·simp
 ·rfl
theorem tX{runs:Nat→Bool}:∀u,Fz ts.length (St md ts lt runs u)
 |0=>⟨by simp[St],by simp[St]⟩
 |u+1=>by
  have h:=sA (md:=md) (ts:=ts) (lt:=lt) (u:=u) (tX (runs:=runs) u) ts.length;exact⟨by show(oM _ _ _).length=_;rw[HT];exact h.1,h.2⟩
theorem U5{runs:Nat→Bool}:∀u,(St md ts lt runs u).d≤u*ts.length
 |0=>by simp[St]
 |u+1=>by
  have h1:=U5 (runs:=runs) u;have h2:=JK (md:=md) (ts:=ts) (lt:=lt) (u:=u) (S:=St md ts lt runs u) ts.length;rw[Nat.succ_mul];show(jW md ts lt u (St md ts lt runs u) ts.length).d≤_;omega
theorem Ay{ts:List Tk}{i:Nat}(h:i<ts.length):ts.getD i G2=ts[i]:=by rw[List.getD_eq_getElem?_getD,List.getElem?_eq_getElem h];rfl
theorem XO{runs:Nat→Bool}{N:Nat}(Nz:0<md)(ho:∀t,t∈ts→sV t):nA ts.length (tD ts) (tC ts) (tP ts) runs (fun u i=>jE (St md ts lt runs u).j i) (fun u i=>jL (St md ts lt runs u).j i) (fun u i=>nX (St md ts lt runs u).n i) N where
 task:=fun i hi=>by
  obtain⟨o1,o2,o3,o4⟩:=ho _ (List.getElem_mem hi);show 1≤(ts.getD i G2).w∧(ts.getD i G2).d≤(ts.getD i G2).p∧1≤(ts.getD i G2).p;rw[Ay hi];omega
 init:=fun i hi=>by
  show jL (List.replicate ts.length (0,0)) i=0;rw[uv (by simpa using hi)];simp
 ends:=fun u hu i hi=>by
  obtain⟨h1,h2,h3,h4⟩:=m9 (u:=u) (lt:=lt) (ts:=ts) Nz (tX (md:=md) (ts:=ts) (lt:=lt) (runs:=runs) u) i ts.length (Nat.le_refl _);have hok:=sA (md:=md) (ts:=ts) (lt:=lt) (u:=u) (tX (md:=md) (ts:=ts) (lt:=lt) (runs:=runs) u) ts.length;show jE (oM ts.length (jW md ts lt u (St md ts lt runs u) ts.length).j (runs u)) i=eR _ _ _ u i;have:jE (oM ts.length (jW md ts lt u (St md ts lt runs u) ts.length).j (runs u)) i=jE (jW md ts lt u (St md ts lt runs u) ts.length).j i:=by
   unfold oM;split
   ·rename_i hp;rcases jH (jW md ts lt u (St md ts lt runs u) ts.length).j ts.length with⟨q1,-⟩|⟨k,q1,q2,-⟩
    ·omega
    ·rw[q1,show((k:Nat):Int).toNat=k by simp,vW (by rw[hok.1];exact q2)];by_cases hik:i=k
     ·rw[if_pos hik,hik]
     ·rw[if_neg hik]
   ·rfl
  rw[this,h1];unfold eR;by_cases hn:nX (St md ts lt runs u).n i≤(u:Nat)
  ·rw[if_pos ⟨hi,hn⟩,if_pos hn]
  ·rw[if_neg (fun h=>hn h.2),if_neg hn]
 Jo:=fun u hu i hi hn=>(m9 (u:=u) (lt:=lt) (ts:=ts) Nz (tX (md:=md) (ts:=ts) (lt:=lt) (runs:=runs) u) i ts.length (Nat.le_refl _)).2.2.1 ⟨hi,hn⟩
 Jp:=fun u hu i hi hn=>(m9 (u:=u) (lt:=lt) (ts:=ts) Nz (tX (md:=md) (ts:=ts) (lt:=lt) (runs:=runs) u) i ts.length (Nat.le_refl _)).2.2.2 (fun h=>hn h.2)
 idle:=fun u hu hr i hi=>by
  have hL:∀i,i<ts.length→jL (jW md ts lt u (St md ts lt runs u) ts.length).j i=lR (tC ts) (fun u i=>jL (St md ts lt runs u).j i) (fun u i=>nX (St md ts lt runs u).n i) u i:=by
   intro i hi;obtain⟨h1,h2,h3,h4⟩:=m9 (u:=u) (lt:=lt) (ts:=ts) Nz (tX (md:=md) (ts:=ts) (lt:=lt) (runs:=runs) u) i ts.length (Nat.le_refl _);rw[h2];unfold lR;by_cases hn:nX (St md ts lt runs u).n i≤(u:Nat)
   ·rw[if_pos ⟨hi,hn⟩,if_pos hn]
   ·rw[if_neg (fun h=>hn h.2),if_neg hn]
  show jL (oM ts.length (jW md ts lt u (St md ts lt runs u) ts.length).j (runs u)) i=_;rw[←hL i hi];unfold oM;split
  ·rename_i hp;rcases jH (jW md ts lt u (St md ts lt runs u) ts.length).j ts.length with⟨q1,-⟩|⟨k,q1,q2,q3,-⟩
   ·omega
   ·rcases hr with hr|hr
    ·rw[hr] at hp;exact absurd hp.1 (by decide)
    ·have:=hr k q2;rw[←hL k q2] at this;omega
  ·rfl
 run:=fun u hu hr hex=>by
  have hL:∀i,i<ts.length→jL (jW md ts lt u (St md ts lt runs u) ts.length).j i=lR (tC ts) (fun u i=>jL (St md ts lt runs u).j i) (fun u i=>nX (St md ts lt runs u).n i) u i∧
    jE (jW md ts lt u (St md ts lt runs u) ts.length).j i=eR (tD ts) (fun u i=>jE (St md ts lt runs u).j i) (fun u i=>nX (St md ts lt runs u).n i) u i:=by
   intro i hi;obtain⟨h1,h2,h3,h4⟩:=m9 (u:=u) (lt:=lt) (ts:=ts) Nz (tX (md:=md) (ts:=ts) (lt:=lt) (runs:=runs) u) i ts.length (Nat.le_refl _);rw[h1,h2];unfold lR eR;by_cases hn:nX (St md ts lt runs u).n i≤(u:Nat)
   ·rw[if_pos ⟨hi,hn⟩,if_pos hn,if_pos ⟨hi,hn⟩,if_pos hn];exact⟨rfl,rfl⟩
   ·rw[if_neg (fun h=>hn h.2),if_neg hn,if_neg (fun h=>hn h.2),if_neg hn];exact⟨rfl,rfl⟩
  have hok:=sA (md:=md) (ts:=ts) (lt:=lt) (u:=u) (tX (md:=md) (ts:=ts) (lt:=lt) (runs:=runs) u) ts.length;rcases jH (jW md ts lt u (St md ts lt runs u) ts.length).j ts.length with⟨q1,q2⟩|⟨k,q1,q2,q3,q4⟩
  ·obtain⟨i,hi,hpos⟩:=hex;have:=q2 i hi;rw[(hL i hi).1] at this;omega
  ·refine⟨k,q2,by rw[←(hL k q2).1];exact q3,fun i hi hpos=>?_,fun i hi=>?_⟩
   ·rw[←(hL k q2).2,←(hL i hi).2];exact q4 i hi (by rw[(hL i hi).1];exact hpos)
   ·show jL (oM ts.length (jW md ts lt u (St md ts lt runs u) ts.length).j (runs u)) i=_;rw[←(hL i hi).1,oM,if_pos ⟨hr,by omega⟩,q1,show((k:Nat):Int).toNat=k by simp,vX (by rw[hok.1];exact q2)];by_cases hik:i=k
    ·subst hik;rw[if_pos rfl,if_pos rfl]
    ·rw[if_neg hik,if_neg hik];omega
end
end Ir
end Go.Proofs.Ytecdcefacdodgaa
