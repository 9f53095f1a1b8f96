/-
  Local: of a partition that passes the test there is slack at all numbers of ticks.
-/
import Derived.Test.YtecdcefacdodgaaVLocC
import Derived.Test.YtecdcefacdodgaaVDelS
import Derived.Test.YtecdcefacdodgaaVDem
set_option maxRecDepth 100000
set_option linter.unusedSimpArgs false
set_option linter.unusedVariables false
namespace Go.Proofs.Ytecdcefacdodgaa
open Go Ads
namespace Ir
theorem zg{l:List Pt}(h:aB l=0)(a:Nat)(g:Int):∀j,j≤l.length→dK l (a:Nat) g j≤128*(if a<j then(j:Int)-1 else(j:Int))
 |0,_=>by simp[dK]
 |j+1,hj=>by
  have ih:=zg h a g j (by omega);have hp:=((kr h).2 _ (List.getElem_mem (show j<l.length by omega))).1;unfold gM at hp;rw[zh h _ _ j (by omega)];by_cases hc:(j:Int)≠(a:Nat)∧mz l[j] g=true
  ·rw[if_pos hc];have OQ:=hc.1;by_cases h1:a<j
   ·rw[if_pos h1] at ih;rw[if_pos (by omega)];omega
   ·rw[if_neg h1] at ih;rw[if_neg (by omega)];omega
  ·rw[if_neg hc];by_cases h1:a<j
   ·rw[if_pos h1] at ih;rw[if_pos (by omega)];omega
   ·rw[if_neg h1] at ih;by_cases h2:a<j+1
    ·rw[if_pos h2];omega
    ·rw[if_neg h2];omega
theorem GO{l:List Pt}(h:aB l=0)(a:Nat)(ha:a<l.length)(t:Tk):0≤eN l (a:Nat) t∧eN l (a:Nat) t≤384:=by
 refine⟨(pL h _ t).1,?_⟩;unfold eN;split
 ·omega
 ·have:=zg h a t.c l.length (Nat.le_refl _);rw[if_pos ha] at this;have:=(kr h).1;omega
theorem My{l:List Pt}(h:aB l=0)(a:Nat)(ha:a<l.length){t:Tk}(ht:t∈l[a].ts):0≤dF l (a:Nat) t∧dF l (a:Nat) t≤32768:=by
 have hx:l[a]∈l:=List.getElem_mem ha;have h1:=w6 h hx ht;have h2:=HJ h hx ht;have h3:=Q9 h hx ht;have h4:=GO h a ha t;rw[rm h _ t h2 h3];rcases h1.2.2.2.2.2 with h5|h5
 ·rw[h5.2.2];simp
 ·have e1:t.f*(eN l (a:Nat) t+t.e-1)=t.f*eN l (a:Nat) t+(t.e*t.f-t.f):=by
   rw[Int.mul_sub,Int.mul_add,Int.mul_comm t.f t.e];omega
  have e2:0≤t.f*eN l (a:Nat) t:=Int.mul_nonneg h3.1 h4.1;have e3:t.f*eN l (a:Nat) t≤64*384:=Int.mul_le_mul h3.2 h4.2 h4.1 (by omega);have e4:1*t.f≤t.e*t.f:=Int.mul_le_mul_of_nonneg_right (by omega) (by omega);omega
theorem oW{l:List Pt}(h:aB l=0)(a:Nat)(ha:a<l.length):∀m,m∈cO l a→0≤m∧m≤32768:=by
 intro m hm;rw[cO,List.getElem?_eq_getElem ha] at hm;obtain⟨t,ht,rfl⟩:=List.mem_map.1 hm;exact My h a ha ht
theorem mM{l:List Pt}(h:aB l=0){x:Pt}(hx:x∈l):∀t,t∈x.ts→sV t:=fun t ht=>qt (((kr h).2 x hx).2.2 t ht).1
theorem Jv{l:List Pt}(a n C:Int)(hC:0≤C)(ts:List Tk)(hb:∀t,t∈ts→ez l a t≤C):∀j,j≤ts.length→og l a n ts j≤C
 |0,_=>by simpa[og] using hC
 |j+1,hj=>by
  have hlt:j<ts.length:=by omega
  have ih:=Jv a n C hC ts hb j (by omega);have:=hb _ (List.getElem_mem hlt);rw[gu hlt];split
  ·rw[iO];omega
  ·exact ih
theorem Hz{l:List Pt}(h:aB l=0)(a:Int){x:Pt}(hx:x∈l){t:Tk}(ht:t∈x.ts):ez l a t≤1000:=by
 have h1:=w6 h hx ht;have h2:=HJ h hx ht;have h3:=pL h a t;unfold ez;split
 ·omega
 ·rw[iO,mA h a t h2];omega
theorem uD{l:List Pt}(h:aB l=0){i:Nat}(hi:i<l.length){n:Int}(h0:0≤n)(h1:n≤1048576):
  l9 l[i] (cO l i) n=(dg (bX n) l[i].ts (cO l i)).sum∧
  j9 l[i] l (i:Nat) (cO l i) n=eC l[i].bV l[i].cE n-(dg (bX n) l[i].ts (cO l i)).sum-og l (i:Nat) n l[i].ts l[i].ts.length:=by
 have hx:l[i]∈l:=List.getElem_mem hi;have hok:=(kr h).2 _ hx;have hp:=hok.1;unfold gM at hp;have hd:=N6 (mM h hx) hok.2.1 (oW h i hi) (m6 hi) h0 h1;have hA:l9 l[i] (cO l i) n=(dg (bX n) l[i].ts (cO l i)).sum:=by rw[l9,hd]
 refine⟨hA,?_⟩;have hs:=PZ (q:=bX n) (l:=l[i].ts) (a:=cO l i) (fun t ht=>⟨mM h hx t ht,by have:=ri (mM h hx t ht) h0 h1;omega⟩) (oW h i hi) (by omega);have hg:=Ic l[i].bV l[i].cE n hp h0 h1;have ho:=ru (l:=l) (i:Nat) n l[i].ts l[i].ts.length (Nat.le_refl _);have ho2:=Jv (l:=l) (i:Nat) n 1000 (by omega) l[i].ts (fun t ht=>Hz h _ hx ht) l[i].ts.length (Nat.le_refl _);have Wo:xZ l[i].bV l[i].cE n=(eC l[i].bV l[i].cE n,0):=by rw[xZ,if_pos ⟨hp,h0,h1⟩]
 rw[j9,hA,LB h hi h0,Wo];simp only[jX,List.foldl_cons,List.foldl_nil];generalize(dg (bX n) l[i].ts (cO l i)).sum=A at*;generalize og l (i:Nat) n l[i].ts l[i].ts.length=d at*;generalize eC l[i].bV l[i].cE n=s at*;rw[IntWalk.i64_in (0-A) (by omega),IntWalk.i64_in (0-d) (by omega),IntWalk.i64_in (0+s) (by omega),IntWalk.i64_in (0+s+_) (by omega),IntWalk.i64_in _ (by omega)];omega
theorem Bt{p b n h:Int}(hs:iV p b)(hn:p-b≤n)(hd:p∣h)(hh:0≤h):eC p b (n+h)=eC p b n+h/p*b:=by
 unfold iV at hs;obtain⟨c,rfl⟩:=hd;have hc:0≤c:=by
  rcases Int.lt_or_le c 0 with h1|h1
  ·have:=Int.mul_neg_of_pos_of_neg (show 0<p by omega) h1;omega
  ·exact h1
 rw[eC,eC,if_neg (by omega),if_neg (by omega),Int.mul_ediv_cancel_left c (by omega),show n+p*c-(p-b)=n-(p-b)+p*c by omega,Int.add_mul_ediv_left _ _ (by omega)];generalize(n-(p-b))/p=z;rw[Int.add_mul,Int.add_mul,Int.mul_comm c p];omega
theorem BV{n h:Int}{t:Tk}(o:sV t)(hn:t.d≤n)(hd:t.p∣h)(hh:0≤h):bX (n+h) t=bX n t+h/t.p:=by
 obtain⟨o1,o2,o3,o4⟩:=o;obtain⟨c,rfl⟩:=hd;rw[bX,bX,if_neg (by omega),if_neg (by omega),Int.mul_ediv_cancel_left c (by omega),show n+t.p*c-t.d=n-t.d+t.p*c by omega,Int.add_mul_ediv_left _ _ (by omega)];omega
theorem AS{n:Int}:∀(l:List Tk) (a:List Int),(∀t,t∈l→n<t.d)→(dg (bX n) l a).sum=0
 |[],a,_=>by simp[dg]
 |t::l,[],_=>by simp[dg]
 |t::l,m::a,h=>by
  show(bX n t*(t.w+m)::dg (bX n) l a).sum=0;rw[List.sum_cons,AS l a fun u hu=>h u (List.mem_cons_of_mem _ hu),bX,if_pos (h t List.mem_cons_self)];simp
theorem Ey{n:Int}(h0:0≤n):∀(l:List Tk) (a:List Int),a.length=l.length→(∀t,t∈l→sV t)→(∀m,m∈a→0≤m)→0≤(dg (bX n) l a).sum∧((∃t,t∈l∧t.d≤n)→0<(dg (bX n) l a).sum)
 |[],a,_,_,_=>by simp[dg]
 |t::l,[],hl,_,_=>by simp at hl
 |t::l,m::a,hl,ho,hm=>by
  obtain⟨i1,i2⟩:=Ey h0 l a (by simpa using hl) (fun u hu=>ho u (List.mem_cons_of_mem _ hu)) (fun u hu=>hm u (List.mem_cons_of_mem _ hu));obtain⟨o1,o2,o3,o4⟩:=ho t List.mem_cons_self;have hm0:=hm m List.mem_cons_self;have hj:0≤bX n t:=by
   unfold bX;split
   ·omega
   ·have:=Int.ediv_nonneg (a:=n-t.d) (b:=t.p) (by omega) (by omega);omega
  have Qr:0≤bX n t*(t.w+m):=Int.mul_nonneg hj (by omega);show 0≤(bX n t*(t.w+m)::dg (bX n) l a).sum∧(_→0<(bX n t*(t.w+m)::dg (bX n) l a).sum);rw[List.sum_cons];refine⟨by omega,?_⟩;rintro⟨u,hu,hd⟩;rcases List.mem_cons.1 hu with rfl|hu
  ·have h1:1≤bX n u:=by
    unfold bX;rw[if_neg (by omega)];have:=Int.ediv_nonneg (a:=n-u.d) (b:=u.p) (by omega) (by omega);omega
   have h2:1*1≤bX n u*(u.w+m):=Int.mul_le_mul h1 (by omega) (by omega) (by omega);omega
  ·have:=i2 ⟨u,hu,hd⟩;omega
theorem Cr{l:List Pt}(h:aB l=0){i:Nat}(hi:i<l.length):cB l (i:Nat)=if l[i].ts.length=0 then(0,0) else sQ l[i] l (i:Nat) (cO l i):=by
 rw[cB,if_neg (by omega),if_neg (by omega),show((i:Int)).toNat=i from rfl,List.getElem?_eq_getElem hi]
def Passes(l:List Pt)(i:Nat)(x:Pt)(M:List Int):Prop:=
 ∃H:Int,mJ x.ts x.bV=(H,0)∧1≤H∧H≤4096∧x.bV∣H∧(∀t,t∈x.ts→t.p∣H)∧
  (dg (fun t=>H/t.p) x.ts M).sum≤H/x.bV*x.cE∧∀n:Nat,1≤n→(n:Int)≤H+jt x.ts x.ts.length+x.bV+x.bV→l9 x M n>0→0≤j9 x l (i:Nat) M n
theorem JD{l:List Pt}(h:aB l=0){i:Nat}(hi:i<l.length)(hne:l[i].ts.length≠0):(cB l (i:Nat)).2=0↔Passes l i l[i] (cO l i):=by
 have hx:l[i]∈l:=List.getElem_mem hi;have hok:=(kr h).2 _ hx;have hp:=hok.1;unfold gM at hp;have hO:=mM h hx;rw[Cr h hi,if_neg hne];have hM:=oW h i hi;have hml:=m6 hi;have z4:=uW (ts:=l[i].ts) (fun t ht=>by have:=hO t ht;unfold sV at this;omega) l[i].ts.length (Nat.le_refl _);generalize cO l i=M at*;generalize l[i]=x at*;unfold sQ Passes;rcases I1 hO hok.2.1 hp.1 hp.2.1 with⟨h1,h2,h3⟩|h1
 ·have VH:=(z7 x.ts x.bV.toNat (gU x.ts x.bV.toNat)).1 (Nat.dvd_refl _);have Du:x.bV∣((gU x.ts x.bV.toNat:Nat):Int):=by
   have:=Int.natCast_dvd_natCast.2 VH.1
   rwa [Int.toNat_of_nonneg (by omega)] at this
  have Nt:∀t,t∈x.ts→t.p∣((gU x.ts x.bV.toNat:Nat):Int):=by
   intro t ht;have:=Int.natCast_dvd_natCast.2 (VH.2 t ht);have ho:=hO t ht;unfold sV at ho
   rwa [Int.toNat_of_nonneg (by omega)] at this
  have hu:=LC hO hok.2.1 hM hml (n:=((gU x.ts x.bV.toNat:Nat):Int)) (by omega) (by omega) Nt;have hH1:1≤((gU x.ts x.bV.toNat:Nat):Int):=by omega
  have hH2:((gU x.ts x.bV.toNat:Nat):Int)≤4096:=by omega
  rw[h1];simp only;rw[hu];generalize((gU x.ts x.bV.toNat:Nat):Int)=H at*;have hq:H.tdiv x.bV=H/x.bV:=Int.tdiv_eq_ediv_of_nonneg (by omega);have Wj:0≤H/x.bV:=Int.ediv_nonneg (by omega) (by omega);have R7:H/x.bV≤H:=Int.ediv_le_self _ (by omega);have hqb:H/x.bV*x.cE≤4096*64:=Int.mul_le_mul (by omega) (by omega) (by omega) (by omega);have XM:0≤H/x.bV*x.cE:=Int.mul_nonneg Wj (by omega);have hE:=EJ (x:=x) (h:=H) (by omega) ⟨z4.1,z4.2.1⟩ ⟨hp.1,hp.2.1⟩;rw[hq,IntWalk.i64_in (H/x.bV) (by omega),IntWalk.i64_in _ (by omega),if_neg (by simp),hE];by_cases Xq:(dg (fun t=>H/t.p) x.ts M).sum>H/x.bV*x.cE
  ·rw[if_pos Xq];constructor
   ·intro hz;simp at hz
   ·rintro⟨H',e1,-,-,-,-,e6,-⟩;simp only[Prod.mk.injEq,and_true] at e1;subst e1;omega
  ·rw[if_neg Xq];constructor
   ·intro hz;refine⟨H,rfl,by omega,by omega,Du,Nt,by omega,?_⟩;cases mh:b9 (rQ x l (i:Nat) M) 1 (H+jt x.ts x.ts.length+x.bV+x.bV).toNat with
    |some t=>rw[mh] at hz;simp at hz
    |none=>
     intro n n1 n2 hn;have:=ef mh (n-1) (by omega);rw[show 1+(n-1)=n by omega,rQ,decide_eq_true hn,Bool.true_and] at this;have:=of_decide_eq_false this;omega
   ·rintro⟨H',e1,-,-,-,-,-,e7⟩;simp only[Prod.mk.injEq,and_true] at e1;subst e1;cases mh:b9 (rQ x l (i:Nat) M) 1 (H+jt x.ts x.ts.length+x.bV+x.bV).toNat with
    |none=>rfl
    |some t=>
     exfalso;obtain⟨t1,t2,t3,-⟩:=dH mh;rw[rQ,Bool.and_eq_true] at t3;have a1:=of_decide_eq_true t3.1;have a2:=of_decide_eq_true t3.2;have:=e7 t t1 (by omega) a1;omega
 ·rw[h1];simp only;rw[if_pos (by simp)];constructor
  ·intro hz;simp at hz
  ·rintro⟨H',e1,-⟩;simp at e1
theorem JB{l:List Pt}(h:aB l=0){i:Nat}(hi:i<l.length)(IL:(cB l (i:Nat)).2=0):∀n:Nat,n≤1048576→l9 l[i] (cO l i) n>0→0≤j9 l[i] l (i:Nat) (cO l i) n:=by
 have hx:l[i]∈l:=List.getElem_mem hi;have hok:=(kr h).2 _ hx;have hp:=hok.1;unfold gM at hp;have hO:=mM h hx;have hM:=oW h i hi;have hml:=m6 hi;have hsp:∀n:Nat,n≤1048576→_:=fun n hn=>uD h hi (n:=(n:Nat)) (by omega) (by omega);by_cases hne:l[i].ts.length=0
 ·intro n hn ha;rw[(hsp n hn).1,List.length_eq_zero_iff.1 hne] at ha;simp[dg] at ha
 ·obtain⟨H,-,H1,H2,H3,H4,H5,H6⟩:=(JD h hi hne).1 IL;have z4:=uW (ts:=l[i].ts) (fun t ht=>by have:=hO t ht;unfold sV at this;omega) l[i].ts.length (Nat.le_refl _);have hz:∀n:Int,jt l[i].ts l[i].ts.length≤n→og l (i:Nat) n l[i].ts l[i].ts.length=0:=fun n hn=>B2 _ _ _ (fun t ht=>by
   obtain⟨j,hj,rfl⟩:=List.getElem_of_mem ht;have:=z4.2.2 j hj hj;omega) _ (Nat.le_refl _)
  have hone:∃t,t∈l[i].ts:=⟨_,List.getElem_mem (show 0<l[i].ts.length by omega)⟩;have RD:∀t,t∈l[i].ts→t.d≤jt l[i].ts l[i].ts.length:=fun t ht=>by
   obtain⟨j,hj,rfl⟩:=List.getElem_of_mem ht;exact z4.2.2 j hj hj
  intro n;induction n using Nat.strongRecOn with
  |_ n ih=>
   intro hn ha;by_cases hE:(n:Int)≤H+jt l[i].ts l[i].ts.length+l[i].bV+l[i].bV
   ·by_cases h0:n=0
    ·subst h0;rw[(hsp 0 (by omega)).1,AS l[i].ts _ (fun t ht=>by have:=hO t ht;unfold sV at this;omega)] at ha;omega
    ·exact H6 n (by omega) hE ha
   ·obtain⟨k,hk⟩:∃k:Nat,(k:Int)=n-H:=⟨(n-H).toNat,by omega⟩;have hkn:k<n:=by omega
    have hka:l9 l[i] (cO l i) k>0:=by
     rw[(hsp k (by omega)).1];obtain⟨t,ht⟩:=hone;exact(Ey (by omega) _ _ hml hO (fun m hm=>(hM m hm).1)).2 ⟨t,ht,by have:=RD t ht;omega⟩
    have hkS:=ih k hkn (by omega) hka;rw[(hsp k (by omega)).2,hz _ (by omega)] at hkS;rw[(hsp n hn).2,hz _ (by omega),show((n:Nat):Int)=(k:Int)+H by omega,Bt hp (by omega) H3 (by omega)];rw[Ew (q:=bX ((k:Int)+H)) (r:=bX (k:Int)) (s:=fun t=>H/t.p) l[i].ts (cO l i) (fun t ht=>BV (hO t ht) (by have:=RD t ht;omega) (H4 t ht) (by omega))];omega
theorem GL{l:List Pt}(h:aB l=0){i:Nat}(hi:i<l.length):(cB l (i:Nat)).2=0∨(cB l (i:Nat)).2=5∨(cB l (i:Nat)).2=120:=by
 have hx:l[i]∈l:=List.getElem_mem hi;have hok:=(kr h).2 _ hx;have hp:=hok.1;unfold gM at hp;rw[Cr h hi];split
 ·exact .inl rfl
 ·unfold sQ;rcases I1 (mM h hx) hok.2.1 hp.1 hp.2.1 with⟨h1,-,-⟩|h1
  ·rw[h1];simp only;rw[if_neg (by simp)];split
   ·exact .inr (.inr rfl)
   ·split
    ·exact .inr (.inr rfl)
    ·exact .inl rfl
  ·rw[h1];simp only;rw[if_pos (by simp)];exact .inr (.inl rfl)
end Ir
end Go.Proofs.Ytecdcefacdodgaa
