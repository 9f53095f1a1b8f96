/-
  Layer 1: Lcm.
-/
import Derived.Test.YtepdklcpagielaaIrLink
import Derived.Test.YtepdklcpagielaaZA
set_option maxRecDepth 100000
set_option linter.unusedSimpArgs false
set_option linter.unusedVariables false
namespace Go.Proofs.Ytepdklcpagielaa
open Go Ads
namespace Ir
def cN(n:Int):Bool:=decide (0≤n)&&decide (n≤1099511627776)
theorem cL(n:Int):cN n=true↔0≤n∧n≤1099511627776:=by simp[cN]
theorem BE{n:Int}(h:n<0∨n>1099511627776):cN n=false:=by
 rw[Bool.eq_false_iff,Ne,cL];omega
def pr(p:Int×Int):AV:=.cQ [.int .i64 p.1,.int .i64 p.2]
theorem G9{a b:Bool}(h:a=false∨b=false):(a&&b)=false:=by cases a<;>simp_all
theorem GO(k:Nat)(l:List Int)(hl:l.length<2^62):PC fs ms 112 [.fz k (ints l)] (.bool (l.all cN)):=by
 refine aX (by simp[bL,AV.cl,aS]) rfl ?_;refine aC (af:=NP) false rfl (Nat.le_of_ble_eq_true rfl) ?_;generalize hQ:(fun(u:AV) (_:Heap)=>u=.bool (l.all cN))=Q;conv=>whnf
 refine ei 5 [(7,.int .i64 (0:Nat)),(5,.fz k (ints l)),(6,.int .i64 (ints l).length)] (by repeat' (first|exact trivial|refine bI rfl (by omega) ?_|refine bg rfl (by omega) ?_|refine aR rfl (by omega) ?_|refine aJ rfl (by first|rfl|simp[bL,AV.cl,aS]) ?_|refine aJ (ay (by omega)) rfl ?_)) ?_;refine fe 5 l.length (fun j=>(l.take j).all cN=true) (fun j=>[(7,.int .i64 (j:Nat)),(5,.fz k (ints l)),(6,.int .i64 (ints l).length)]) ?_ ?_ rfl
 ·intro j hj hi;conv=>whnf
  refine br (fun hc=>?_) (fun hc=>?_)<;>(try rw[hc])<;>(conv=>whnf)
  ·refine⟨_,jR hj,?_⟩;conv=>whnf
   iterate 3 (all_goals (first|(refine br (fun hc=>?_) (fun hc=>?_)<;>(try rw[hc])<;>(conv=>whnf))|skip))
   ·subst hQ;rw[yo hj (BE (.inl (by simpa using hc)))]
   ·subst hQ;rw[yo hj (BE (.inr (by simpa using hc)))]
   ·rename_i hc0;simp only[decide_eq_false_iff_not] at hc hc0;exact⟨nD hj hi ((cL _).2 (by omega)),aJ (ay (by omega)) rfl (by repeat' (first|exact trivial|refine bI rfl (by omega) ?_|refine bg rfl (by omega) ?_|refine aR rfl (by omega) ?_|refine aJ rfl (by first|rfl|simp[bL,AV.cl,aS]) ?_|refine aJ (ay (by omega)) rfl ?_))⟩
  ·simp[cu] at hc;omega
 ·intro hi;conv=>whnf
  refine br (fun hc=>?_) (fun hc=>?_)<;>(try rw[hc])<;>(conv=>whnf)
  ·simp[cu] at hc
  ·subst hQ;rw[List.take_length] at hi;rw[hi]
theorem CZ{a b:Int}{h:Heap}{n:Nat}(hn:h.get n=some (.cells [.int .i64 a,.int .i64 b] true 0)){Q:AV→Heap→Prop}(hq:Q (.bool (cN a&&cN b)) h):
  VD fs ms 112 [.sl n 0 2 2 false] h Q:=by
 have:=GO 2 [a,b] (by simp);simp only[List.all_cons,List.all_nil,Bool.and_true] at this;exact ji this rfl (.cons (.row (s:=1) trivial hn rfl rfl rfl (Nat.le_refl _) (Nat.le_refl _) (fun _=>rfl) (fun _=>rfl) rfl) .nil) hq
theorem Qu{a:Int}{h:Heap}{n:Nat}(hn:h.get n=some (.cells [.int .i64 a] true 0)){Q:AV→Heap→Prop}(hq:Q (.bool (cN a)) h):
  VD fs ms 112 [.sl n 0 1 1 false] h Q:=by
 have:=GO 2 [a] (by simp);simp only[List.all_cons,List.all_nil,Bool.and_true] at this;exact ji this rfl (.cons (.row (s:=1) trivial hn rfl rfl rfl (Nat.le_refl _) (Nat.le_refl _) (fun _=>rfl) (fun _=>rfl) rfl) .nil) hq
def zZ(n e:Int):Int×Int:=if e=0 then(if n>1099511627776 then(0,10) else(n,0)) else(0,e)
theorem GP(n e:Int):PC fs ms 131 [.int .i64 n,.int .i64 e] (pr (zZ n e)):=by
 refine aX rfl rfl ?_;refine aC (af:=N6) false rfl (Nat.le_of_ble_eq_true rfl) ?_;generalize hQ:(fun(v:AV) (_:Heap)=>v=pr (zZ n e))=Q;conv=>whnf
 iterate 6 (all_goals (first|(refine br (fun hc=>?_) (fun hc=>?_)<;>(try rw[hc])<;>(conv=>whnf))|skip))
 all_goals (subst hQ;simp at*;simp only[pr,zZ])
 all_goals (repeat' split)
 all_goals (first|rfl|omega)
theorem EV{a b:Int}(ha:0≤a)(hb:0≤b):0≤a.tdiv b∧a.tdiv b≤a:=by
 rw[Int.tdiv_eq_ediv_of_nonneg ha];exact⟨Int.ediv_nonneg ha hb,Int.ediv_le_self _ ha⟩
theorem K3(Q:AX→Env→Heap→Prop):∀(n m:Nat),(∀g,Q (.exit 0) (sk 5 (kn [(0,.int .i64 (Nat.gcd m n:Nat))] g)) (hk 0 []))→
  VC fs ms 0 false (.loop tL) (ek 5 [(0,.int .i64 (m:Nat)),(1,.int .i64 (n:Nat))]) (hk 0 []) Q:=by
 intro n;induction n using Nat.strongRecOn with
 |_ n ih=>
  intro m hq;refine lU (z:=false) ?_;conv=>whnf
  refine br (fun hc=>?_) (fun hc=>?_)<;>(try rw[hc])<;>(conv=>whnf)
  ·have hn:(n:Int)≠0:=by simpa using hc
   refine⟨_,ya _ _ hn,?_⟩;conv=>whnf
   refine ei 5 [(0,.int .i64 (n:Nat)),(1,.int .i64 (m%n:Nat))] (aJ rfl rfl (aJ (by show some (AV.int .i64 ((m:Int).tmod n))=_;rw[Int.ofNat_tmod]) rfl trivial)) ?_;refine ih (m%n) (Nat.mod_lt _ (by omega)) n ?_;have:Nat.gcd n (m%n)=Nat.gcd m n:=by rw[Nat.gcd_comm m n,Nat.gcd_rec n m,Nat.gcd_comm]
   rw[this];exact hq
  ·have hn:n=0:=by simp at hc;omega
   subst hn;refine Rt (P:=fun e=>Q (.exit 0) e (hk 0 [])) 5 [(0,.int .i64 (Nat.gcd m 0:Nat))] rfl ⟨?_,trivial⟩ hq;show some (AV.int .i64 (m:Int))=_;rw[Nat.gcd_zero_right]
def rD(a b:Int):Int×Int:=if cN a&&cN b then(Nat.gcd a.toNat b.toNat,0) else(0,2)
theorem QN(a b:Int):PC fs ms 105 [.int .i64 a,.int .i64 b] (pr (rD a b)):=by
 refine aX rfl rfl ?_;refine aC (af:=NK) false rfl (Nat.le_of_ble_eq_true rfl) ?_;generalize hQ:(fun(v:AV) (_:Heap)=>v=pr (rD a b))=Q;conv=>whnf
 refine CZ rfl ?_;conv=>whnf
 refine br (fun hc=>?_) (fun hc=>?_)<;>(try rw[hc])<;>(conv=>whnf)
 ·subst hQ;simp at*;simp only[rD,pr,G9 hc];rfl
 ·simp at hc;have g1:=(cL a).1 hc.1;have g2:=(cL b).1 hc.2;obtain⟨m,rfl⟩:=Int.eq_ofNat_of_zero_le g1.1;obtain⟨n,rfl⟩:=Int.eq_ofNat_of_zero_le g2.1;refine ei 5 [(0,.int .i64 (m:Nat)),(1,.int .i64 (n:Nat))] (by repeat' (first|exact trivial|refine bI rfl (by omega) ?_|refine bg rfl (by omega) ?_|refine aR rfl (by omega) ?_|refine aJ rfl (by first|rfl|simp[bL,AV.cl,aS]) ?_|refine aJ (ay (by omega)) rfl ?_)) ?_;refine K3 _ n m ?_;intro g;conv=>whnf
  subst hQ;simp[rD,pr,hc]
def AH(a b:Int):Int×Int:=if cN a&&cN b then(if a*b>1099511627776 then(0,10) else(a*b,0)) else(0,2)
theorem zb(x:Int)(h:0≤x)(h2:x<2^64):((BitVec.ofInt IntKind.u64.bits x&&&BitVec.ofInt IntKind.u64.bits 4294967295).toNat:Int)=x%4294967296:=by
 obtain⟨n,rfl⟩:=Int.eq_ofNat_of_zero_le h;have h3:(BitVec.ofInt 64 (n:Int)).toNat=n:=by
  rw[BitVec.toNat_ofInt];omega
 show((BitVec.ofInt 64 (n:Int)&&&BitVec.ofInt 64 4294967295).toNat:Int)=_;rw[BitVec.toNat_and,h3,show(BitVec.ofInt 64 4294967295).toNat=2^32-1 by decide,Nat.and_two_pow_sub_one_eq_mod];omega
theorem HU(x:Int):x.fdiv (2^(min (32:Int).toNat IntKind.u64.bits))=x/4294967296:=by
 show x.fdiv 4294967296=_;rw[Int.fdiv_eq_ediv_of_nonneg _ (by omega)]
theorem I8(a b:Int)(ha:0≤a∧a≤1099511627776)(hb:0≤b∧b≤1099511627776):
  a*b=a/4294967296*(b/4294967296)*18446744073709551616+(a/4294967296*(b%4294967296)+a%4294967296*(b/4294967296))*4294967296+a%4294967296*(b%4294967296)∧
  (0≤a/4294967296*(b/4294967296)∧a/4294967296*(b/4294967296)≤65536)∧(0≤a/4294967296*(b%4294967296)∧a/4294967296*(b%4294967296)≤1099511627776)∧
  (0≤a%4294967296*(b/4294967296)∧a%4294967296*(b/4294967296)≤1099511627776)∧(0≤a%4294967296*(b%4294967296)∧a%4294967296*(b%4294967296)≤18446744065119617025):=by
 have hx:a=a/4294967296*4294967296+a%4294967296:=by omega
 have hy:b=b/4294967296*4294967296+b%4294967296:=by omega
 have x1:0≤a/4294967296∧a/4294967296≤256:=by omega
 have y1:0≤b/4294967296∧b/4294967296≤256:=by omega
 have x0:0≤a%4294967296∧a%4294967296≤4294967295:=by omega
 have y0:0≤b%4294967296∧b%4294967296≤4294967295:=by omega
 generalize a/4294967296=u at*;generalize a%4294967296=v at*;generalize b/4294967296=s at*;generalize b%4294967296=t at*;subst hx hy;refine⟨by grind,?_,?_,?_,?_⟩
 ·exact⟨Int.mul_nonneg x1.1 y1.1,Int.le_trans (Int.mul_le_mul x1.2 y1.2 y1.1 (by omega)) (by omega)⟩
 ·exact⟨Int.mul_nonneg x1.1 y0.1,Int.le_trans (Int.mul_le_mul x1.2 y0.2 y0.1 (by omega)) (by omega)⟩
 ·exact⟨Int.mul_nonneg x0.1 y1.1,Int.le_trans (Int.mul_le_mul x0.2 y1.2 y1.1 (by omega)) (by omega)⟩
 ·exact⟨Int.mul_nonneg x0.1 y0.1,Int.le_trans (Int.mul_le_mul x0.2 y0.2 y0.1 (by omega)) (by omega)⟩
theorem acD(x:Int):pV (.bin .shr) [.int .u64 x,.int .i64 32]=some (.int .u64 (x/4294967296)):=by
 have:=HU x;simp only[pV,NC,l2,Fp,Cn,lR,cond_true,oX];rw[this];rfl
theorem Qm{k:IntKind}(x:Int):pV (.bin .shr) [.int .u64 x,.int k 32]=some (.int .u64 (x/4294967296)):=by
 have:=HU x;simp only[pV,NC,l2,Fp,Cn,lR,cond_true,oX];rw[this];rfl
theorem PL(a b:Int)(ha:0≤a∧a≤1099511627776)(hb:0≤b∧b≤1099511627776):
  PC fs ms 150 [.int .u64 a,.int .u64 b] (.cQ [.int .u64 (a*b/18446744073709551616),.int .u64 (a*b%18446744073709551616)]):=by
 refine aX rfl rfl ?_;refine aC (af:=Oo) false rfl (Nat.le_of_ble_eq_true rfl) ?_;generalize hQ:(fun(v:AV) (_:Heap)=>v=.cQ [.int .u64 (a*b/18446744073709551616),.int .u64 (a*b%18446744073709551616)])=Q;conv=>whnf
 iterate 8 (all_goals (first|(refine⟨_,Qm _,?_⟩<;>(conv=>whnf))|skip))
 subst hQ;have nL:∀z:Int,IntKind.u64.wrap z=z%18446744073709551616:=fun z=>by simp[IntKind.wrap,IntKind.signed,IntKind.bits]
 have e:=I8 a b ha hb;rw[zb a (by omega) (by omega),zb b (by omega) (by omega)];rw[IntWalk.u64_in (a%4294967296) (by omega),IntWalk.u64_in (b%4294967296) (by omega)];generalize a/4294967296*(b/4294967296)=p11 at*;generalize a/4294967296*(b%4294967296)=p10 at*;generalize a%4294967296*(b/4294967296)=p01 at*;generalize a%4294967296*(b%4294967296)=p00 at*;obtain⟨e1,e2,e3,e4,e5⟩:=e;rw[IntWalk.u64_in p11 (by omega),IntWalk.u64_in p10 (by omega),IntWalk.u64_in p01 (by omega),IntWalk.u64_in p00 (by omega)];rw[IntWalk.u64_in (p10+p00/4294967296) (by omega)];rw[zb _ (by omega) (by omega)];rw[IntWalk.u64_in ((p10+p00/4294967296)%4294967296) (by omega)];rw[IntWalk.u64_in (_+p01) (by omega)];rw[IntWalk.u64_in (p11+_) (by omega)];rw[IntWalk.u64_in _ (by omega)];rw[nL,e1]
 congr 3
 congr 1
 omega
theorem WS(a b:Int):PC fs ms 140 [.int .i64 a,.int .i64 b] (pr (AH a b)):=by
 refine aX rfl rfl ?_;refine aC (af:=Of) false rfl (Nat.le_of_ble_eq_true rfl) ?_;generalize hQ:(fun(v:AV) (_:Heap)=>v=pr (AH a b))=Q;conv=>whnf
 refine CZ rfl ?_;conv=>whnf
 refine br (fun hc=>?_) (fun hc=>?_)<;>(try rw[hc])<;>(conv=>whnf)
 ·subst hQ;simp at*;simp only[AH,pr,G9 hc];rfl
 ·simp at hc;have g1:=(cL a).1 hc.1;have g2:=(cL b).1 hc.2;rw[IntWalk.u64_in a (by omega),IntWalk.u64_in b (by omega)];refine au (PL a b g1 g2) ?_;conv=>whnf
  iterate 6 (all_goals (first|(refine br (fun hc=>?_) (fun hc=>?_)<;>(try rw[hc])<;>(conv=>whnf))|skip))
  all_goals subst hQ
  all_goals have hp:=Int.mul_nonneg g1.1 g2.1
  ·simp only[decide_eq_true_eq] at hc;simp only[AH,pr, *];generalize a*b=p at*;rw[if_pos (by simp),if_pos (by omega)]
  ·rename_i h1;simp only[decide_eq_true_eq,decide_eq_false_iff_not] at hc h1;simp only[AH,pr, *];generalize a*b=p at*;rw[if_pos (by simp),if_pos (by omega)]
  ·rename_i h1;simp only[decide_eq_false_iff_not] at hc h1;simp only[AH,pr, *];generalize a*b=p at*;rw[if_pos (by simp),if_neg (by omega),IntWalk.i64_in _ (by omega),show p%18446744073709551616=p by omega]
theorem Pp(k:Nat)(l:List Int)(x:Int)(hl:l.length<2^62):∃r:Int,PC fs ms 139 [.fz k (ints l),.int .i64 x] (.int .i64 r)∧(0≤r↔l.contains x=true):=by
 by_cases hx:l.contains x=true
 ·obtain⟨j,hj,Pc,abp⟩:=ng (l:=l) (p:=fun y=>y=x) ⟨x,by simpa using hx,rfl⟩;refine⟨j,?_,by simp;simpa using hx⟩;refine aX (by simp[bL,AV.cl,aS]) rfl ?_;refine aC (af:=J8) false rfl (Nat.le_of_ble_eq_true rfl) ?_;generalize hQ:(fun(u:AV) (_:Heap)=>u=.int .i64 (j:Nat))=Q;conv=>whnf
  refine ei 5 [(8,.int .i64 (0:Nat)),(0,.fz k (ints l)),(1,.int .i64 x),(7,.int .i64 (ints l).length)] (by repeat' (first|exact trivial|refine bI rfl (by omega) ?_|refine bg rfl (by omega) ?_|refine aR rfl (by omega) ?_|refine aJ rfl (by first|rfl|simp[bL,AV.cl,aS]) ?_|refine aJ (ay (by omega)) rfl ?_)) ?_;refine fe 5 l.length (fun i=>i≤j) (fun i=>[(8,.int .i64 (i:Nat)),(0,.fz k (ints l)),(1,.int .i64 x),(7,.int .i64 (ints l).length)]) ?_ ?_ (Nat.zero_le _)
  ·intro i hi hij;conv=>whnf
   refine br (fun hc=>?_) (fun hc=>?_)<;>(try rw[hc])<;>(conv=>whnf)
   ·refine⟨_,jR hi,?_⟩;conv=>whnf
    refine br (fun hc=>?_) (fun hc=>?_)<;>(try rw[hc])<;>(conv=>whnf)
    ·subst hQ;have Wq:x=l[i]:=by simpa using hc
     have:i=j:=by
      by_cases hlt:i<j
      ·exact absurd Wq.symm (abp i hi hlt)
      ·omega
     subst this;rfl
    ·have Wq:x≠l[i]:=by simpa using hc
     refine⟨?_,aJ (ay (by omega)) rfl (by repeat' (first|exact trivial|refine bI rfl (by omega) ?_|refine bg rfl (by omega) ?_|refine aR rfl (by omega) ?_|refine aJ rfl (by first|rfl|simp[bL,AV.cl,aS]) ?_|refine aJ (ay (by omega)) rfl ?_))⟩;by_cases he:i=j
     ·subst he;exact absurd Pc.symm Wq
     ·omega
   ·simp[cu] at hc;omega
  ·intro hi;omega
 ·refine⟨-1,?_,by simp;simpa using hx⟩;refine aX (by simp[bL,AV.cl,aS]) rfl ?_;refine aC (af:=J8) false rfl (Nat.le_of_ble_eq_true rfl) ?_;generalize hQ:(fun(u:AV) (_:Heap)=>u=.int .i64 (-1))=Q;conv=>whnf
  refine ei 5 [(8,.int .i64 (0:Nat)),(0,.fz k (ints l)),(1,.int .i64 x),(7,.int .i64 (ints l).length)] (by repeat' (first|exact trivial|refine bI rfl (by omega) ?_|refine bg rfl (by omega) ?_|refine aR rfl (by omega) ?_|refine aJ rfl (by first|rfl|simp[bL,AV.cl,aS]) ?_|refine aJ (ay (by omega)) rfl ?_)) ?_;refine fe 5 l.length (fun i=>True) (fun i=>[(8,.int .i64 (i:Nat)),(0,.fz k (ints l)),(1,.int .i64 x),(7,.int .i64 (ints l).length)]) ?_ ?_ trivial
  ·intro i hi _;conv=>whnf
   refine br (fun hc=>?_) (fun hc=>?_)<;>(try rw[hc])<;>(conv=>whnf)
   ·refine⟨_,jR hi,?_⟩;conv=>whnf
    refine br (fun hc=>?_) (fun hc=>?_)<;>(try rw[hc])<;>(conv=>whnf)
    ·have Wq:x=l[i]:=by simpa using hc
     exact absurd (by rw[Wq];simp) hx
    ·exact⟨trivial,aJ (ay (by omega)) rfl (by repeat' (first|exact trivial|refine bI rfl (by omega) ?_|refine bg rfl (by omega) ?_|refine aR rfl (by omega) ?_|refine aJ rfl (by first|rfl|simp[bL,AV.cl,aS]) ?_|refine aJ (ay (by omega)) rfl ?_))⟩
   ·simp[cu] at hc;omega
  ·intro hi;conv=>whnf
   refine br (fun hc=>?_) (fun hc=>?_)<;>(try rw[hc])<;>(conv=>whnf)
   ·simp[cu] at hc
   ·subst hQ;rfl
theorem Fx(k:Nat)(l:List Int)(x:Int)(hl:l.length<2^62):PC fs ms 128 [.fz k (ints l),.int .i64 x] (.bool (l.contains x)):=by
 obtain⟨r,hr,hrx⟩:=Pp k l x hl;refine aX (by simp[bL,AV.cl,aS]) rfl ?_;refine aC (af:=N3) false rfl (Nat.le_of_ble_eq_true rfl) ?_;generalize hQ:(fun(u:AV) (_:Heap)=>u=.bool (l.contains x))=Q;conv=>whnf
 refine au hr ?_;conv=>whnf
 subst hQ;show AV.bool (decide (r≥0))=_
 congr 1
 rw[Bool.eq_iff_iff,←hrx];simp
def cnt(p:Int×Int):dm:=.cells [.int .i64 p.1,.int .i64 p.2] true 0
def iE(p:Int×Int)(m:Int):Int×Int:=if p.2=0 then AH p.1 (m.tdiv (rD p.1 m).1) else p
theorem Mj{h:Heap}{b:Nat}{p:Int×Int}{m:Int}(hg:h.get b=some (cnt p))(hm:cN m=true)(Uu:1≤m)(hp1:p.2=0→cN p.1=true∧1≤p.1){Q:AV→Heap→Prop}(hq:Q (.cQ []) (h.set b (cnt (iE p m))))(hq0:p.2≠0→Q (.cQ []) h):
  VD fs ms 130 [.ptr b 0,.int .i64 m] h Q:=by
 refine aC (af:=N5) true rfl (Nat.le_of_ble_eq_true rfl) ?_;conv=>whnf
 refine⟨_,bA hg rfl,?_⟩;conv=>whnf
 refine br (fun hc=>?_) (fun hc=>?_)<;>(try rw[hc])<;>(conv=>whnf)
 ·have hp:p.2=0:=by simpa using hc
  obtain⟨ht,h1⟩:=hp1 hp;have gt:=(cL _).1 hm;have gp:=(cL _).1 ht;refine⟨_,bA hg rfl,?_⟩;conv=>whnf
  refine au (QN _ _) ?_;conv=>whnf
  refine⟨_,bA hg rfl,?_⟩;conv=>whnf
  have Y6:(rD p.1 m).1=(Nat.gcd p.1.toNat m.toNat:Nat):=by simp[rD,ht,hm]
  have Sw:0<Nat.gcd p.1.toNat m.toNat:=Nat.gcd_pos_of_pos_left _ (by omega);have hdv:=EV gt.1 (show 0≤(rD p.1 m).1 by rw[Y6];omega);refine⟨_,jU _ _ (by rw[Y6];omega),?_⟩;rw[IntWalk.i64_in _ (by omega)];conv=>whnf
  refine au (WS _ _) ?_;conv=>whnf
  refine⟨_,_,st1 hg rfl rfl rfl,?_⟩;conv=>whnf
  refine⟨_,_,st1 (mX _ _ _) rfl rfl rfl,?_⟩;conv=>whnf
  rw[set_set];have:iE p m=AH p.1 (m.tdiv (rD p.1 m).1):=by simp[iE,hp]
  rw[this] at hq;exact hq
 ·exact hq0 (by simpa using hc)
def J5(b:Nat)(h h':Heap):Prop:=h'.next=h.next∧∀c,c≠b→h'.get c=h.get c
theorem J5.refl(b:Nat)(h:Heap):J5 b h h:=⟨rfl,fun _ _=>rfl⟩
theorem J5.trans{b:Nat}{h h1 h2:Heap}(x:J5 b h h1)(y:J5 b h1 h2):J5 b h h2:=⟨y.1.trans x.1,fun c hc=>(y.2 c hc).trans (x.2 c hc)⟩
theorem J5.set(b:Nat)(h:Heap)(x:dm):J5 b h (h.set b x):=⟨rfl,fun c hc=>by rw[Heap.bP,if_neg hc]⟩
theorem Qs{F b:Nat}(step:Int×Int→Int→Int×Int)(Good:Int×Int→Prop)(l:List Int)(k:Nat)(hl:l.length<2^62)
  (body:∀(h:Heap) (p:Int×Int) (m:Int),m∈l→Good p→h.get b=some (cnt p)→∀Q:AV→Heap→Prop,Q (.cQ []) (h.set b (cnt (step p m)))→(p.2≠0→Q (.cQ []) h)→VD fs ms F [.ptr b 0,.int .i64 m] h Q)
  (ve:∀p m,m∈l→Good p→Good (step p m))(SN:∀p m,p.2≠0→step p m=p){h:Heap}{p:Int×Int}(hg:h.get b=some (cnt p))(Sw:Good p):
  VD fs ms 129 [.func (.func F) [.ptr b 0] [],.fz k (ints l)] h fun u h'=>u=.cQ []∧h'.get b=some (cnt (l.foldl step p))∧J5 b h h'∧Good (l.foldl step p):=by
 refine aC (af:=N4) true rfl (Nat.le_of_ble_eq_true rfl) ?_;generalize hQ:(fun(u:AV) (h':Heap)=>u=.cQ []∧h'.get b=some (cnt (l.foldl step p))∧J5 b h h'∧Good (l.foldl step p))=Q;conv=>whnf
 refine ak 4 [(8,.int .i64 (0:Nat)),(0,.func (.func F) [.ptr b 0] []),(6,.fz k (ints l)),(7,.int .i64 (ints l).length)] ⟨rfl,rfl,rfl,rfl,trivial⟩ ?_;refine K0 true h.next 4 l.length (fun j h'=>h'.get b=some (cnt ((l.take j).foldl step p))∧J5 b h h'∧Good ((l.take j).foldl step p)) (fun j=>[(8,.int .i64 (j:Nat)),(0,.func (.func F) [.ptr b 0] []),(6,.fz k (ints l)),(7,.int .i64 (ints l).length)]) ?_ ?_ ⟨hg,.refl _ _,Sw⟩
 ·intro j h' hj ⟨i1,i2,i3⟩;conv=>whnf
  refine br (fun hc=>?_) (fun hc=>?_)<;>(try rw[hc])<;>(conv=>whnf)
  ·refine⟨_,jR hj,?_⟩;conv=>whnf
   refine⟨_,rfl,?_⟩;conv=>whnf
   have hmem:l[j]∈l:=List.getElem_mem hj;have hstep:(l.take (j+1)).foldl step p=step ((l.take j).foldl step p) l[j]:=by rw[eY hj,List.foldl_append];rfl
   refine body h' _ _ hmem i3 i1 _ ?_ ?_
   ·conv=>whnf
    refine⟨⟨?_,i2.trans (.set _ _ _),?_⟩,ay (by omega),rfl,rfl,rfl,trivial⟩
    ·rw[hstep];exact mX _ _ _
    ·rw[hstep];exact ve _ _ hmem i3
   ·intro hne;conv=>whnf
    refine⟨⟨?_,i2,?_⟩,ay (by omega),rfl,rfl,rfl,trivial⟩
    ·rw[hstep,SN _ _ hne];exact i1
    ·rw[hstep];exact ve _ _ hmem i3
  ·simp[cu] at hc;omega
 ·intro h' ⟨i1,i2,i3⟩;conv=>whnf
  refine br (fun hc=>?_) (fun hc=>?_)<;>(try rw[hc])<;>(conv=>whnf)
  ·simp[cu] at hc
  ·subst hQ;rw[List.take_length] at i1 i3;exact⟨rfl,i1,i2,i3⟩
def AE(limit:Int)(l:List Int):Int×Int:=
 let p:=l.foldl iE (1,0)
 if cN limit&&(l.all cN&&!l.contains 0) then(if p.2=0∧p.1>limit then zZ p.1 10 else zZ p.1 p.2) else(0,2)
def Good(p:Int×Int):Prop:=p.2=0→cN p.1=true∧1≤p.1
theorem IT{p:Int×Int}{m:Int}(hm:cN m=true∧1≤m)(hg:Good p):Good (iE p m):=by
 intro h0;by_cases hp:p.2=0
 ·obtain⟨h1,h2⟩:=hg hp;have gp:=(cL _).1 h1;have gm:=(cL _).1 hm.1;have Y6:(rD p.1 m).1=(Nat.gcd p.1.toNat m.toNat:Nat):=by simp[rD,h1,hm.1]
  have Sw:0<Nat.gcd p.1.toNat m.toNat:=Nat.gcd_pos_of_pos_left _ (by omega);have hq1:1≤m.tdiv (rD p.1 m).1:=by
   rw[Y6,Int.tdiv_eq_ediv_of_nonneg gm.1];have:Nat.gcd p.1.toNat m.toNat≤m.toNat:=Nat.gcd_le_right _ (by omega);exact(Int.le_ediv_iff_mul_le (by omega)).2 (by omega)
  simp only[iE,hp,if_true] at h0⊢;generalize m.tdiv (rD p.1 m).1=q at*;simp only[AH] at h0⊢;split at h0
  ·split at h0
   ·simp at h0
   ·rename_i h3 h4;rw[if_pos h3,if_neg h4];have:1≤p.1*q:=by
     have:=Int.mul_le_mul h2 hq1 (by omega) (by omega);omega
    exact⟨(cL _).2 ⟨by omega,by simp only;omega⟩,this⟩
  ·simp at h0
 ·simp only[iE,hp,if_false] at h0
theorem WJ(limit:Int)(k:Nat)(l:List Int)(hl:l.length<2^62):PC fs ms 115 [.int .i64 limit,.fz k (ints l)] (pr (AE limit l)):=by
 refine aX (by simp[bL,AV.cl,aS]) rfl ?_;refine aC (af:=NS) true rfl (Nat.le_of_ble_eq_true rfl) ?_;generalize hQ:(fun(u:AV) (_:Heap)=>u=pr (AE limit l))=Q;conv=>whnf
 refine Qu rfl ?_;conv=>whnf
 refine br (fun hc=>?_) (fun hc=>?_)<;>(try rw[hc])<;>(conv=>whnf)
 ·subst hQ;have:cN limit=false:=by simpa using hc
  simp[AE,this,pr]
 ·have ht:cN limit=true:=by simpa using hc
  refine au (GO k l hl) ?_;conv=>whnf
  refine br (fun hc=>?_) (fun hc=>?_)<;>(try rw[hc])<;>(conv=>whnf)
  ·subst hQ;have:l.all cN=false:=by simpa using hc
   simp only[AE,this,Bool.false_and,Bool.and_false,Bool.false_eq_true,if_false];rfl
  ·have hall:l.all cN=true:=by simpa using hc
   refine au (Fx k l 0 hl) ?_;conv=>whnf
   refine br (fun hc=>?_) (fun hc=>?_)<;>(try rw[hc])<;>(conv=>whnf)
   ·subst hQ;simp only[AE,hc,Bool.not_true,Bool.and_false,Bool.false_eq_true,if_false];rfl
   ·have hmem:∀m,m∈l→cN m=true∧1≤m:=by
     intro m hm;have h1:=List.all_eq_true.1 hall m hm;have h2:=(cL m).1 h1;refine⟨h1,?_⟩;have:m≠0:=by
      rintro rfl;rw[List.contains_iff_mem.2 hm] at hc;simp at hc
     omega
    have mR:(cN limit&&(l.all cN&&!l.contains 0))=true:=by rw[ht,hall,hc];rfl
    refine(Qs (b:=1) iE Good l k hl (fun h p m hm Nu hg Q h1 h2=>Mj hg (hmem m hm).1 (hmem m hm).2 Nu h1 h2) (fun p m hm hg=>IT (hmem m hm) hg) (fun p m hp=>by simp[iE,hp]) (p:=(1,0)) (by rw[Heap.cB,if_pos (by rfl)];rfl) (fun _=>⟨rfl,by decide⟩)).mono ?_;rintro u h' ⟨rfl,h1,h2,_⟩;conv=>whnf
    refine⟨_,bA h1 rfl,?_⟩;conv=>whnf
    refine br (fun hc=>?_) (fun hc=>?_)<;>(try rw[hc])<;>(conv=>whnf)
    ·have he:(l.foldl iE (1,0)).2=0:=by simpa using hc
     refine⟨_,bA h1 rfl,?_⟩;conv=>whnf
     refine br (fun hc=>?_) (fun hc=>?_)<;>(try rw[hc])<;>(conv=>whnf)
     ·refine⟨_,_,st1 h1 rfl rfl rfl,?_⟩;conv=>whnf
      refine⟨_,bA (mX _ _ _) rfl,?_⟩;conv=>whnf
      refine⟨_,bA (mX _ _ _) rfl,?_⟩;conv=>whnf
      refine au (GP _ _) ?_;conv=>whnf
      subst hQ;simp only[AE,mR,if_true];rw[if_pos ⟨he,by simpa using hc⟩];rfl
     ·refine⟨_,bA h1 rfl,?_⟩;conv=>whnf
      refine⟨_,bA h1 rfl,?_⟩;conv=>whnf
      refine au (GP _ _) ?_;conv=>whnf
      subst hQ;simp only[AE,mR,if_true];rw[if_neg (fun hh=>by have:=hh.2;simp at hc;omega)];rfl
    ·refine⟨_,bA h1 rfl,?_⟩;conv=>whnf
     refine⟨_,bA h1 rfl,?_⟩;conv=>whnf
     refine au (GP _ _) ?_;conv=>whnf
     subst hQ;simp only[AE,mR,if_true];rw[if_neg (fun hh=>by have:=hh.1;simp at hc;omega)];rfl
end Ir
end Go.Proofs.Ytepdklcpagielaa
