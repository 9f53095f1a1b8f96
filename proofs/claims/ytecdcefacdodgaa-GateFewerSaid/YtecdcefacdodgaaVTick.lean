/-
  Layer 1: Lcm.
-/
import Derived.Test.YtecdcefacdodgaaIrLink
import Derived.Test.YtecdcefacdodgaaZA
set_option maxRecDepth 100000
set_option linter.unusedSimpArgs false
set_option linter.unusedVariables false
namespace Go.Proofs.Ytecdcefacdodgaa
open Go Ads
namespace Ir
def bS(n:Int):Bool:=decide (0≤n)&&decide (n≤1099511627776)
theorem bP(n:Int):bS n=true↔0≤n∧n≤1099511627776:=by simp[bS]
theorem yN{n:Int}(h:n<0∨n>1099511627776):bS n=false:=by
 rw[Bool.eq_false_iff,Ne,bP];omega
def pr(p:Int×Int):AV:=.cC [.int .i64 p.1,.int .i64 p.2]
theorem EC{a b:Bool}(h:a=false∨b=false):(a&&b)=false:=by cases a<;>simp_all
theorem Eh(k:Nat)(l:List Int)(hl:l.length<2^62):PC fs ms 138 [.fz k (ints l)] (.bool (l.all bS)):=by
 refine bq (by simp[bn,AV.cl,aE]) rfl ?_;refine aA (af:=K0) false rfl (Nat.le_of_ble_eq_true rfl) ?_;generalize hQ:(fun(u:AV) (_:Heap)=>u=.bool (l.all bS))=Q;conv=>whnf
 refine dy 5 [(7,.int .i64 (0:Nat)),(5,.fz k (ints l)),(6,.int .i64 (ints l).length)] (by repeat' (first|exact trivial|refine bt rfl (by omega) ?_|refine aV rfl (by omega) ?_|refine aJ rfl (by omega) ?_|refine aC rfl (by first|rfl|simp[bn,AV.cl,aE]) ?_|refine aC (au (by omega)) rfl ?_)) ?_;refine fH 5 l.length (fun j=>(l.take j).all bS=true) (fun j=>[(7,.int .i64 (j:Nat)),(5,.fz k (ints l)),(6,.int .i64 (ints l).length)]) ?_ ?_ rfl
 ·intro j hj hi;conv=>whnf
  refine br (fun hc=>?_) (fun hc=>?_)<;>(try rw[hc])<;>(conv=>whnf)
  ·refine⟨_,gX hj,?_⟩;conv=>whnf
   iterate 3 (all_goals (first|(refine br (fun hc=>?_) (fun hc=>?_)<;>(try rw[hc])<;>(conv=>whnf))|skip))
   ·subst hQ;rw[Hj hj (yN (.inl (by simpa using hc)))]
   ·subst hQ;rw[Hj hj (yN (.inr (by simpa using hc)))]
   ·rename_i hc0;simp only[decide_eq_false_iff_not] at hc hc0;exact⟨AL hj hi ((bP _).2 (by omega)),aC (au (by omega)) rfl (by repeat' (first|exact trivial|refine bt rfl (by omega) ?_|refine aV rfl (by omega) ?_|refine aJ rfl (by omega) ?_|refine aC rfl (by first|rfl|simp[bn,AV.cl,aE]) ?_|refine aC (au (by omega)) rfl ?_))⟩
  ·simp[aT] at hc;omega
 ·intro hi;conv=>whnf
  refine br (fun hc=>?_) (fun hc=>?_)<;>(try rw[hc])<;>(conv=>whnf)
  ·simp[aT] at hc
  ·subst hQ;rw[List.take_length] at hi;rw[hi]
theorem Ax{a b:Int}{h:Heap}{n:Nat}(hn:h.get n=some (.cells [.int .i64 a,.int .i64 b] true 0)){Q:AV→Heap→Prop}(hq:Q (.bool (bS a&&bS b)) h):
  VD fs ms 138 [.sl n 0 2 2 false] h Q:=by
 have:=Eh 2 [a,b] (by simp);simp only[List.all_cons,List.all_nil,Bool.and_true] at this;exact ja this rfl (.cons (.row (s:=1) trivial hn rfl rfl rfl (Nat.le_refl _) (Nat.le_refl _) (fun _=>rfl) (fun _=>rfl) rfl) .nil) hq
theorem MW{a:Int}{h:Heap}{n:Nat}(hn:h.get n=some (.cells [.int .i64 a] true 0)){Q:AV→Heap→Prop}(hq:Q (.bool (bS a)) h):
  VD fs ms 138 [.sl n 0 1 1 false] h Q:=by
 have:=Eh 2 [a] (by simp);simp only[List.all_cons,List.all_nil,Bool.and_true] at this;exact ja this rfl (.cons (.row (s:=1) trivial hn rfl rfl rfl (Nat.le_refl _) (Nat.le_refl _) (fun _=>rfl) (fun _=>rfl) rfl) .nil) hq
def w7(n e:Int):Int×Int:=if e=0 then(if n>1099511627776 then(0,10) else(n,0)) else(0,e)
theorem Ei(n e:Int):PC fs ms 142 [.int .i64 n,.int .i64 e] (pr (w7 n e)):=by
 refine bq rfl rfl ?_;refine aA (af:=K4) false rfl (Nat.le_of_ble_eq_true rfl) ?_;generalize hQ:(fun(v:AV) (_:Heap)=>v=pr (w7 n e))=Q;conv=>whnf
 iterate 6 (all_goals (first|(refine br (fun hc=>?_) (fun hc=>?_)<;>(try rw[hc])<;>(conv=>whnf))|skip))
 all_goals (subst hQ;simp at*;simp only[pr,w7])
 all_goals (repeat' split)
 all_goals (first|rfl|omega)
theorem Cq{a b:Int}(ha:0≤a)(hb:0≤b):0≤a.tdiv b∧a.tdiv b≤a:=by
 rw[Int.tdiv_eq_ediv_of_nonneg ha];exact⟨Int.ediv_nonneg ha hb,Int.ediv_le_self _ ha⟩
theorem Ia(Q:AX→Env→Heap→Prop):∀(n m:Nat),(∀g,Q (.exit 0) (sk 5 (kn [(0,.int .i64 (Nat.gcd m n:Nat))] g)) (hk 0 []))→
  VC fs ms 0 false (.loop qE) (ek 5 [(0,.int .i64 (m:Nat)),(1,.int .i64 (n:Nat))]) (hk 0 []) Q:=by
 intro n;induction n using Nat.strongRecOn with
 |_ n ih=>
  intro m hq;refine fK (z:=false) ?_;conv=>whnf
  refine br (fun hc=>?_) (fun hc=>?_)<;>(try rw[hc])<;>(conv=>whnf)
  ·have hn:(n:Int)≠0:=by simpa using hc
   refine⟨_,qk _ _ hn,?_⟩;conv=>whnf
   refine dy 5 [(0,.int .i64 (n:Nat)),(1,.int .i64 (m%n:Nat))] (aC rfl rfl (aC (by show some (AV.int .i64 ((m:Int).tmod n))=_;rw[Int.ofNat_tmod]) rfl trivial)) ?_;refine ih (m%n) (Nat.mod_lt _ (by omega)) n ?_;have:Nat.gcd n (m%n)=Nat.gcd m n:=by rw[Nat.gcd_comm m n,Nat.gcd_rec n m,Nat.gcd_comm]
   rw[this];exact hq
  ·have hn:n=0:=by simp at hc;omega
   subst hn;refine NO (P:=fun e=>Q (.exit 0) e (hk 0 [])) 5 [(0,.int .i64 (Nat.gcd m 0:Nat))] rfl ⟨?_,trivial⟩ hq;show some (AV.int .i64 (m:Int))=_;rw[Nat.gcd_zero_right]
def oP(a b:Int):Int×Int:=if bS a&&bS b then(Nat.gcd a.toNat b.toNat,0) else(0,2)
theorem Ni(a b:Int):PC fs ms 133 [.int .i64 a,.int .i64 b] (pr (oP a b)):=by
 refine bq rfl rfl ?_;refine aA (af:=KX) false rfl (Nat.le_of_ble_eq_true rfl) ?_;generalize hQ:(fun(v:AV) (_:Heap)=>v=pr (oP a b))=Q;conv=>whnf
 refine Ax rfl ?_;conv=>whnf
 refine br (fun hc=>?_) (fun hc=>?_)<;>(try rw[hc])<;>(conv=>whnf)
 ·subst hQ;simp at*;simp only[oP,pr,EC hc];rfl
 ·simp at hc;have g1:=(bP a).1 hc.1;have g2:=(bP b).1 hc.2;obtain⟨m,rfl⟩:=Int.eq_ofNat_of_zero_le g1.1;obtain⟨n,rfl⟩:=Int.eq_ofNat_of_zero_le g2.1;refine dy 5 [(0,.int .i64 (m:Nat)),(1,.int .i64 (n:Nat))] (by repeat' (first|exact trivial|refine bt rfl (by omega) ?_|refine aV rfl (by omega) ?_|refine aJ rfl (by omega) ?_|refine aC rfl (by first|rfl|simp[bn,AV.cl,aE]) ?_|refine aC (au (by omega)) rfl ?_)) ?_;refine Ia _ n m ?_;intro g;conv=>whnf
  subst hQ;simp[oP,pr,hc]
def xT(a b:Int):Int×Int:=if bS a&&bS b then(if a*b>1099511627776 then(0,10) else(a*b,0)) else(0,2)
theorem v9(x:Int)(h:0≤x)(h2:x<2^64):((BitVec.ofInt IntKind.u64.bits x&&&BitVec.ofInt IntKind.u64.bits 4294967295).toNat:Int)=x%4294967296:=by
 obtain⟨n,rfl⟩:=Int.eq_ofNat_of_zero_le h;have h3:(BitVec.ofInt 64 (n:Int)).toNat=n:=by
  rw[BitVec.toNat_ofInt];omega
 show((BitVec.ofInt 64 (n:Int)&&&BitVec.ofInt 64 4294967295).toNat:Int)=_;rw[BitVec.toNat_and,h3,show(BitVec.ofInt 64 4294967295).toNat=2^32-1 by decide,Nat.and_two_pow_sub_one_eq_mod];omega
theorem Fl(x:Int):x.fdiv (2^(min (32:Int).toNat IntKind.u64.bits))=x/4294967296:=by
 show x.fdiv 4294967296=_;rw[Int.fdiv_eq_ediv_of_nonneg _ (by omega)]
theorem Gg(a b:Int)(ha:0≤a∧a≤1099511627776)(hb:0≤b∧b≤1099511627776):
  a*b=a/4294967296*(b/4294967296)*18446744073709551616+(a/4294967296*(b%4294967296)+a%4294967296*(b/4294967296))*4294967296+a%4294967296*(b%4294967296)∧
  (0≤a/4294967296*(b/4294967296)∧a/4294967296*(b/4294967296)≤65536)∧(0≤a/4294967296*(b%4294967296)∧a/4294967296*(b%4294967296)≤1099511627776)∧
  (0≤a%4294967296*(b/4294967296)∧a%4294967296*(b/4294967296)≤1099511627776)∧(0≤a%4294967296*(b%4294967296)∧a%4294967296*(b%4294967296)≤18446744065119617025):=by
 have hx:a=a/4294967296*4294967296+a%4294967296:=by omega
 have hy:b=b/4294967296*4294967296+b%4294967296:=by omega
 have x1:0≤a/4294967296∧a/4294967296≤256:=by omega
 have y1:0≤b/4294967296∧b/4294967296≤256:=by omega
 have x0:0≤a%4294967296∧a%4294967296≤4294967295:=by omega
 have y0:0≤b%4294967296∧b%4294967296≤4294967295:=by omega
 generalize a/4294967296=u at*;generalize a%4294967296=v at*;generalize b/4294967296=s at*;generalize b%4294967296=t at*;subst hx hy;refine⟨by grind,?_,?_,?_,?_⟩
 ·exact⟨Int.mul_nonneg x1.1 y1.1,Int.le_trans (Int.mul_le_mul x1.2 y1.2 y1.1 (by omega)) (by omega)⟩
 ·exact⟨Int.mul_nonneg x1.1 y0.1,Int.le_trans (Int.mul_le_mul x1.2 y0.2 y0.1 (by omega)) (by omega)⟩
 ·exact⟨Int.mul_nonneg x0.1 y1.1,Int.le_trans (Int.mul_le_mul x0.2 y1.2 y1.1 (by omega)) (by omega)⟩
 ·exact⟨Int.mul_nonneg x0.1 y0.1,Int.le_trans (Int.mul_le_mul x0.2 y0.2 y0.1 (by omega)) (by omega)⟩
theorem WN(x:Int):pV (.bin .shr) [.int .u64 x,.int .i64 32]=some (.int .u64 (x/4294967296)):=by
 have:=Fl x;simp only[pV,KF,l2,AU,xG,iN,cond_true,ld];rw[this];rfl
theorem MT{k:IntKind}(x:Int):pV (.bin .shr) [.int .u64 x,.int k 32]=some (.int .u64 (x/4294967296)):=by
 have:=Fl x;simp only[pV,KF,l2,AU,xG,iN,cond_true,ld];rw[this];rfl
theorem MA(a b:Int)(ha:0≤a∧a≤1099511627776)(hb:0≤b∧b≤1099511627776):
  PC fs ms 168 [.int .u64 a,.int .u64 b] (.cC [.int .u64 (a*b/18446744073709551616),.int .u64 (a*b%18446744073709551616)]):=by
 refine bq rfl rfl ?_;refine aA (af:=Ll) false rfl (Nat.le_of_ble_eq_true rfl) ?_;generalize hQ:(fun(v:AV) (_:Heap)=>v=.cC [.int .u64 (a*b/18446744073709551616),.int .u64 (a*b%18446744073709551616)])=Q;conv=>whnf
 iterate 8 (all_goals (first|(refine⟨_,MT _,?_⟩<;>(conv=>whnf))|skip))
 subst hQ;have oQ:∀z:Int,IntKind.u64.wrap z=z%18446744073709551616:=fun z=>by simp[IntKind.wrap,IntKind.signed,IntKind.bits]
 have e:=Gg a b ha hb;rw[v9 a (by omega) (by omega),v9 b (by omega) (by omega)];rw[IntWalk.u64_in (a%4294967296) (by omega),IntWalk.u64_in (b%4294967296) (by omega)];generalize a/4294967296*(b/4294967296)=XA at*;generalize a/4294967296*(b%4294967296)=WG at*;generalize a%4294967296*(b/4294967296)=p01 at*;generalize a%4294967296*(b%4294967296)=p00 at*;obtain⟨e1,e2,e3,e4,e5⟩:=e;rw[IntWalk.u64_in XA (by omega),IntWalk.u64_in WG (by omega),IntWalk.u64_in p01 (by omega),IntWalk.u64_in p00 (by omega)];rw[IntWalk.u64_in (WG+p00/4294967296) (by omega)];rw[v9 _ (by omega) (by omega)];rw[IntWalk.u64_in ((WG+p00/4294967296)%4294967296) (by omega)];rw[IntWalk.u64_in (_+p01) (by omega)];rw[IntWalk.u64_in (XA+_) (by omega)];rw[IntWalk.u64_in _ (by omega)];rw[oQ,e1]
 congr 3
 congr 1
 omega
theorem SA(a b:Int):PC fs ms 157 [.int .i64 a,.int .i64 b] (pr (xT a b)):=by
 refine bq rfl rfl ?_;refine aA (af:=Lc) false rfl (Nat.le_of_ble_eq_true rfl) ?_;generalize hQ:(fun(v:AV) (_:Heap)=>v=pr (xT a b))=Q;conv=>whnf
 refine Ax rfl ?_;conv=>whnf
 refine br (fun hc=>?_) (fun hc=>?_)<;>(try rw[hc])<;>(conv=>whnf)
 ·subst hQ;simp at*;simp only[xT,pr,EC hc];rfl
 ·simp at hc;have g1:=(bP a).1 hc.1;have g2:=(bP b).1 hc.2;rw[IntWalk.u64_in a (by omega),IntWalk.u64_in b (by omega)];refine ai (MA a b g1 g2) ?_;conv=>whnf
  iterate 6 (all_goals (first|(refine br (fun hc=>?_) (fun hc=>?_)<;>(try rw[hc])<;>(conv=>whnf))|skip))
  all_goals subst hQ
  all_goals have hp:=Int.mul_nonneg g1.1 g2.1
  ·simp only[decide_eq_true_eq] at hc;simp only[xT,pr, *];generalize a*b=p at*;rw[if_pos (by simp),if_pos (by omega)]
  ·rename_i h1;simp only[decide_eq_true_eq,decide_eq_false_iff_not] at hc h1;simp only[xT,pr, *];generalize a*b=p at*;rw[if_pos (by simp),if_pos (by omega)]
  ·rename_i h1;simp only[decide_eq_false_iff_not] at hc h1;simp only[xT,pr, *];generalize a*b=p at*;rw[if_pos (by simp),if_neg (by omega),IntWalk.i64_in _ (by omega),show p%18446744073709551616=p by omega]
theorem Mg(k:Nat)(l:List Int)(x:Int)(hl:l.length<2^62):∃r:Int,PC fs ms 156 [.fz k (ints l),.int .i64 x] (.int .i64 r)∧(0≤r↔l.contains x=true):=by
 by_cases hx:l.contains x=true
 ·obtain⟨j,hj,hjx,VN⟩:=p7 (l:=l) (p:=fun y=>y=x) ⟨x,by simpa using hx,rfl⟩;refine⟨j,?_,by simp;simpa using hx⟩;refine bq (by simp[bn,AV.cl,aE]) rfl ?_;refine aA (af:=G6) false rfl (Nat.le_of_ble_eq_true rfl) ?_;generalize hQ:(fun(u:AV) (_:Heap)=>u=.int .i64 (j:Nat))=Q;conv=>whnf
  refine dy 5 [(8,.int .i64 (0:Nat)),(0,.fz k (ints l)),(1,.int .i64 x),(7,.int .i64 (ints l).length)] (by repeat' (first|exact trivial|refine bt rfl (by omega) ?_|refine aV rfl (by omega) ?_|refine aJ rfl (by omega) ?_|refine aC rfl (by first|rfl|simp[bn,AV.cl,aE]) ?_|refine aC (au (by omega)) rfl ?_)) ?_;refine fH 5 l.length (fun i=>i≤j) (fun i=>[(8,.int .i64 (i:Nat)),(0,.fz k (ints l)),(1,.int .i64 x),(7,.int .i64 (ints l).length)]) ?_ ?_ (Nat.zero_le _)
  ·intro i hi hij;conv=>whnf
   refine br (fun hc=>?_) (fun hc=>?_)<;>(try rw[hc])<;>(conv=>whnf)
   ·refine⟨_,gX hi,?_⟩;conv=>whnf
    refine br (fun hc=>?_) (fun hc=>?_)<;>(try rw[hc])<;>(conv=>whnf)
    ·subst hQ;have Sk:x=l[i]:=by simpa using hc
     have:i=j:=by
      by_cases hlt:i<j
      ·exact absurd Sk.symm (VN i hi hlt)
      ·omega
     subst this;rfl
    ·have Sk:x≠l[i]:=by simpa using hc
     refine⟨?_,aC (au (by omega)) rfl (by repeat' (first|exact trivial|refine bt rfl (by omega) ?_|refine aV rfl (by omega) ?_|refine aJ rfl (by omega) ?_|refine aC rfl (by first|rfl|simp[bn,AV.cl,aE]) ?_|refine aC (au (by omega)) rfl ?_))⟩;by_cases he:i=j
     ·subst he;exact absurd hjx.symm Sk
     ·omega
   ·simp[aT] at hc;omega
  ·intro hi;omega
 ·refine⟨-1,?_,by simp;simpa using hx⟩;refine bq (by simp[bn,AV.cl,aE]) rfl ?_;refine aA (af:=G6) false rfl (Nat.le_of_ble_eq_true rfl) ?_;generalize hQ:(fun(u:AV) (_:Heap)=>u=.int .i64 (-1))=Q;conv=>whnf
  refine dy 5 [(8,.int .i64 (0:Nat)),(0,.fz k (ints l)),(1,.int .i64 x),(7,.int .i64 (ints l).length)] (by repeat' (first|exact trivial|refine bt rfl (by omega) ?_|refine aV rfl (by omega) ?_|refine aJ rfl (by omega) ?_|refine aC rfl (by first|rfl|simp[bn,AV.cl,aE]) ?_|refine aC (au (by omega)) rfl ?_)) ?_;refine fH 5 l.length (fun i=>True) (fun i=>[(8,.int .i64 (i:Nat)),(0,.fz k (ints l)),(1,.int .i64 x),(7,.int .i64 (ints l).length)]) ?_ ?_ trivial
  ·intro i hi _;conv=>whnf
   refine br (fun hc=>?_) (fun hc=>?_)<;>(try rw[hc])<;>(conv=>whnf)
   ·refine⟨_,gX hi,?_⟩;conv=>whnf
    refine br (fun hc=>?_) (fun hc=>?_)<;>(try rw[hc])<;>(conv=>whnf)
    ·have Sk:x=l[i]:=by simpa using hc
     exact absurd (by rw[Sk];simp) hx
    ·exact⟨trivial,aC (au (by omega)) rfl (by repeat' (first|exact trivial|refine bt rfl (by omega) ?_|refine aV rfl (by omega) ?_|refine aJ rfl (by omega) ?_|refine aC rfl (by first|rfl|simp[bn,AV.cl,aE]) ?_|refine aC (au (by omega)) rfl ?_))⟩
   ·simp[aT] at hc;omega
  ·intro hi;conv=>whnf
   refine br (fun hc=>?_) (fun hc=>?_)<;>(try rw[hc])<;>(conv=>whnf)
   ·simp[aT] at hc
   ·subst hQ;rfl
theorem C1(k:Nat)(l:List Int)(x:Int)(hl:l.length<2^62):PC fs ms 139 [.fz k (ints l),.int .i64 x] (.bool (l.contains x)):=by
 obtain⟨r,hr,hrx⟩:=Mg k l x hl;refine bq (by simp[bn,AV.cl,aE]) rfl ?_;refine aA (af:=K1) false rfl (Nat.le_of_ble_eq_true rfl) ?_;generalize hQ:(fun(u:AV) (_:Heap)=>u=.bool (l.contains x))=Q;conv=>whnf
 refine ai hr ?_;conv=>whnf
 subst hQ;show AV.bool (decide (r≥0))=_
 congr 1
 rw[Bool.eq_iff_iff,←hrx];simp
def cnt(p:Int×Int):ck:=.cells [.int .i64 p.1,.int .i64 p.2] true 0
def fJ(p:Int×Int)(m:Int):Int×Int:=if p.2=0 then xT p.1 (m.tdiv (oP p.1 m).1) else p
theorem Jm{h:Heap}{b:Nat}{p:Int×Int}{m:Int}(hg:h.get b=some (cnt p))(hm:bS m=true)(RV:1≤m)(TH:p.2=0→bS p.1=true∧1≤p.1){Q:AV→Heap→Prop}(hq:Q (.cC []) (h.set b (cnt (fJ p m))))(Wj:p.2≠0→Q (.cC []) h):
  VD fs ms 141 [.ptr b 0,.int .i64 m] h Q:=by
 refine aA (af:=K3) true rfl (Nat.le_of_ble_eq_true rfl) ?_;conv=>whnf
 refine⟨_,qz hg rfl,?_⟩;conv=>whnf
 refine br (fun hc=>?_) (fun hc=>?_)<;>(try rw[hc])<;>(conv=>whnf)
 ·have hp:p.2=0:=by simpa using hc
  obtain⟨ht,h1⟩:=TH hp;have gt:=(bP _).1 hm;have gp:=(bP _).1 ht;refine⟨_,qz hg rfl,?_⟩;conv=>whnf
  refine ai (Ni _ _) ?_;conv=>whnf
  refine⟨_,qz hg rfl,?_⟩;conv=>whnf
  have TE:(oP p.1 m).1=(Nat.gcd p.1.toNat m.toNat:Nat):=by simp[oP,ht,hm]
  have F6:0<Nat.gcd p.1.toNat m.toNat:=Nat.gcd_pos_of_pos_left _ (by omega);have VH:=Cq gt.1 (show 0≤(oP p.1 m).1 by rw[TE];omega);refine⟨_,jK _ _ (by rw[TE];omega),?_⟩;rw[IntWalk.i64_in _ (by omega)];conv=>whnf
  refine ai (SA _ _) ?_;conv=>whnf
  refine⟨_,_,WR hg rfl rfl rfl,?_⟩;conv=>whnf
  refine⟨_,_,WR (kF _ _ _) rfl rfl rfl,?_⟩;conv=>whnf
  rw[set_set];have:fJ p m=xT p.1 (m.tdiv (oP p.1 m).1):=by simp[fJ,hp]
  rw[this] at hq;exact hq
 ·exact Wj (by simpa using hc)
def G3(b:Nat)(h h':Heap):Prop:=h'.next=h.next∧∀c,c≠b→h'.get c=h.get c
theorem G3.refl(b:Nat)(h:Heap):G3 b h h:=⟨rfl,fun _ _=>rfl⟩
theorem G3.trans{b:Nat}{h h1 h2:Heap}(x:G3 b h h1)(y:G3 b h1 h2):G3 b h h2:=⟨y.1.trans x.1,fun c hc=>(y.2 c hc).trans (x.2 c hc)⟩
theorem G3.set(b:Nat)(h:Heap)(x:ck):G3 b h (h.set b x):=⟨rfl,fun c hc=>by rw[Heap.bl,if_neg hc]⟩
theorem MV{F b:Nat}(step:Int×Int→Int→Int×Int)(Good:Int×Int→Prop)(l:List Int)(k:Nat)(hl:l.length<2^62)
  (body:∀(h:Heap) (p:Int×Int) (m:Int),m∈l→Good p→h.get b=some (cnt p)→∀Q:AV→Heap→Prop,Q (.cC []) (h.set b (cnt (step p m)))→(p.2≠0→Q (.cC []) h)→VD fs ms F [.ptr b 0,.int .i64 m] h Q)
  (EV:∀p m,m∈l→Good p→Good (step p m))(O9:∀p m,p.2≠0→step p m=p){h:Heap}{p:Int×Int}(hg:h.get b=some (cnt p))(F6:Good p):
  VD fs ms 140 [.func (.func F) [.ptr b 0] [],.fz k (ints l)] h fun u h'=>u=.cC []∧h'.get b=some (cnt (l.foldl step p))∧G3 b h h'∧Good (l.foldl step p):=by
 refine aA (af:=K2) true rfl (Nat.le_of_ble_eq_true rfl) ?_;generalize hQ:(fun(u:AV) (h':Heap)=>u=.cC []∧h'.get b=some (cnt (l.foldl step p))∧G3 b h h'∧Good (l.foldl step p))=Q;conv=>whnf
 refine Cw 4 [(8,.int .i64 (0:Nat)),(0,.func (.func F) [.ptr b 0] []),(6,.fz k (ints l)),(7,.int .i64 (ints l).length)] ⟨rfl,rfl,rfl,rfl,trivial⟩ ?_;refine HW true h.next 4 l.length (fun j h'=>h'.get b=some (cnt ((l.take j).foldl step p))∧G3 b h h'∧Good ((l.take j).foldl step p)) (fun j=>[(8,.int .i64 (j:Nat)),(0,.func (.func F) [.ptr b 0] []),(6,.fz k (ints l)),(7,.int .i64 (ints l).length)]) ?_ ?_ ⟨hg,.refl _ _,F6⟩
 ·intro j h' hj ⟨i1,i2,i3⟩;conv=>whnf
  refine br (fun hc=>?_) (fun hc=>?_)<;>(try rw[hc])<;>(conv=>whnf)
  ·refine⟨_,gX hj,?_⟩;conv=>whnf
   refine⟨_,rfl,?_⟩;conv=>whnf
   have hmem:l[j]∈l:=List.getElem_mem hj;have hstep:(l.take (j+1)).foldl step p=step ((l.take j).foldl step p) l[j]:=by rw[eG hj,List.foldl_append];rfl
   refine body h' _ _ hmem i3 i1 _ ?_ ?_
   ·conv=>whnf
    refine⟨⟨?_,i2.trans (.set _ _ _),?_⟩,au (by omega),rfl,rfl,rfl,trivial⟩
    ·rw[hstep];exact kF _ _ _
    ·rw[hstep];exact EV _ _ hmem i3
   ·intro hne;conv=>whnf
    refine⟨⟨?_,i2,?_⟩,au (by omega),rfl,rfl,rfl,trivial⟩
    ·rw[hstep,O9 _ _ hne];exact i1
    ·rw[hstep];exact EV _ _ hmem i3
  ·simp[aT] at hc;omega
 ·intro h' ⟨i1,i2,i3⟩;conv=>whnf
  refine br (fun hc=>?_) (fun hc=>?_)<;>(try rw[hc])<;>(conv=>whnf)
  ·simp[aT] at hc
  ·subst hQ;rw[List.take_length] at i1 i3;exact⟨rfl,i1,i2,i3⟩
def xR(limit:Int)(l:List Int):Int×Int:=
 let p:=l.foldl fJ (1,0)
 if bS limit&&(l.all bS&&!l.contains 0) then(if p.2=0∧p.1>limit then w7 p.1 10 else w7 p.1 p.2) else(0,2)
def Good(p:Int×Int):Prop:=p.2=0→bS p.1=true∧1≤p.1
theorem FV{p:Int×Int}{m:Int}(hm:bS m=true∧1≤m)(hg:Good p):Good (fJ p m):=by
 intro h0;by_cases hp:p.2=0
 ·obtain⟨h1,h2⟩:=hg hp;have gp:=(bP _).1 h1;have gm:=(bP _).1 hm.1;have TE:(oP p.1 m).1=(Nat.gcd p.1.toNat m.toNat:Nat):=by simp[oP,h1,hm.1]
  have F6:0<Nat.gcd p.1.toNat m.toNat:=Nat.gcd_pos_of_pos_left _ (by omega);have R7:1≤m.tdiv (oP p.1 m).1:=by
   rw[TE,Int.tdiv_eq_ediv_of_nonneg gm.1];have:Nat.gcd p.1.toNat m.toNat≤m.toNat:=Nat.gcd_le_right _ (by omega);exact(Int.le_ediv_iff_mul_le (by omega)).2 (by omega)
  simp only[fJ,hp,if_true] at h0⊢;generalize m.tdiv (oP p.1 m).1=q at*;simp only[xT] at h0⊢;split at h0
  ·split at h0
   ·simp at h0
   ·rename_i h3 h4;rw[if_pos h3,if_neg h4];have:1≤p.1*q:=by
     have:=Int.mul_le_mul h2 R7 (by omega) (by omega);omega
    exact⟨(bP _).2 ⟨by omega,by simp only;omega⟩,this⟩
  ·simp at h0
 ·simp only[fJ,hp,if_false] at h0
theorem Sw(limit:Int)(k:Nat)(l:List Int)(hl:l.length<2^62):PC fs ms 109 [.int .i64 limit,.fz k (ints l)] (pr (xR limit l)):=by
 refine bq (by simp[bn,AV.cl,aE]) rfl ?_;refine aA (af:=KK) true rfl (Nat.le_of_ble_eq_true rfl) ?_;generalize hQ:(fun(u:AV) (_:Heap)=>u=pr (xR limit l))=Q;conv=>whnf
 refine MW rfl ?_;conv=>whnf
 refine br (fun hc=>?_) (fun hc=>?_)<;>(try rw[hc])<;>(conv=>whnf)
 ·subst hQ;have:bS limit=false:=by simpa using hc
  simp[xR,this,pr]
 ·have ht:bS limit=true:=by simpa using hc
  refine ai (Eh k l hl) ?_;conv=>whnf
  refine br (fun hc=>?_) (fun hc=>?_)<;>(try rw[hc])<;>(conv=>whnf)
  ·subst hQ;have:l.all bS=false:=by simpa using hc
   simp only[xR,this,Bool.false_and,Bool.and_false,Bool.false_eq_true,if_false];rfl
  ·have hall:l.all bS=true:=by simpa using hc
   refine ai (C1 k l 0 hl) ?_;conv=>whnf
   refine br (fun hc=>?_) (fun hc=>?_)<;>(try rw[hc])<;>(conv=>whnf)
   ·subst hQ;simp only[xR,hc,Bool.not_true,Bool.and_false,Bool.false_eq_true,if_false];rfl
   ·have hmem:∀m,m∈l→bS m=true∧1≤m:=by
     intro m hm;have h1:=List.all_eq_true.1 hall m hm;have h2:=(bP m).1 h1;refine⟨h1,?_⟩;have:m≠0:=by
      rintro rfl;rw[List.contains_iff_mem.2 hm] at hc;simp at hc
     omega
    have ko:(bS limit&&(l.all bS&&!l.contains 0))=true:=by rw[ht,hall,hc];rfl
    refine(MV (b:=1) fJ Good l k hl (fun h p m hm GW hg Q h1 h2=>Jm hg (hmem m hm).1 (hmem m hm).2 GW h1 h2) (fun p m hm hg=>FV (hmem m hm) hg) (fun p m hp=>by simp[fJ,hp]) (p:=(1,0)) (by rw[Heap.bK,if_pos (by rfl)];rfl) (fun _=>⟨rfl,by decide⟩)).mono ?_;rintro u h' ⟨rfl,h1,h2,_⟩;conv=>whnf
    refine⟨_,qz h1 rfl,?_⟩;conv=>whnf
    refine br (fun hc=>?_) (fun hc=>?_)<;>(try rw[hc])<;>(conv=>whnf)
    ·have he:(l.foldl fJ (1,0)).2=0:=by simpa using hc
     refine⟨_,qz h1 rfl,?_⟩;conv=>whnf
     refine br (fun hc=>?_) (fun hc=>?_)<;>(try rw[hc])<;>(conv=>whnf)
     ·refine⟨_,_,WR h1 rfl rfl rfl,?_⟩;conv=>whnf
      refine⟨_,qz (kF _ _ _) rfl,?_⟩;conv=>whnf
      refine⟨_,qz (kF _ _ _) rfl,?_⟩;conv=>whnf
      refine ai (Ei _ _) ?_;conv=>whnf
      subst hQ;simp only[xR,ko,if_true];rw[if_pos ⟨he,by simpa using hc⟩];rfl
     ·refine⟨_,qz h1 rfl,?_⟩;conv=>whnf
      refine⟨_,qz h1 rfl,?_⟩;conv=>whnf
      refine ai (Ei _ _) ?_;conv=>whnf
      subst hQ;simp only[xR,ko,if_true];rw[if_neg (fun hh=>by have:=hh.2;simp at hc;omega)];rfl
    ·refine⟨_,qz h1 rfl,?_⟩;conv=>whnf
     refine⟨_,qz h1 rfl,?_⟩;conv=>whnf
     refine ai (Ei _ _) ?_;conv=>whnf
     subst hQ;simp only[xR,ko,if_true];rw[if_neg (fun hh=>by have:=hh.1;simp at hc;omega)];rfl
end Ir
end Go.Proofs.Ytecdcefacdodgaa
