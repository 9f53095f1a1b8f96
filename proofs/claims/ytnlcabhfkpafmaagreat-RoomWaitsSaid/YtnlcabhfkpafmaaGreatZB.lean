/-
  Layer 1: Lcm. Demand: the tasks. Demand: rows of tasks. Demand: ContainsFunc over numbers and tasks. Demand: what is refused. Demand: what the document's Check refuses. Demand: jobs of a task; each; sum. Demand: each. Demand: Of. Demand: the document's Of. Demand: Use of both. Demand: Hyper of the program. Demand: what is asked for, without ends of the numbers. Judge: a partition's notes. Judge: in how many ticks a partition ran. Rows that grow, in any heap. Many blocks at once: each has a role.
-/
import Derived.Test.YtnlcabhfkpafmaaGreatIrLink
import Derived.Test.YtnlcabhfkpafmaaGreatZA
import Derived.Test.YtnlcabhfkpafmaaGreatVsLoop
set_option maxRecDepth 100000
set_option linter.unusedSimpArgs false
set_option linter.unusedVariables false
namespace Go.Proofs.YtnlcabhfkpafmaaGreat
open Go Ads
namespace Ir
def fP(n:Int):Bool:=decide (0≤n)&&decide (n≤1099511627776)
theorem fQ(n:Int):fP n=true↔0≤n∧n≤1099511627776:=by simp[fP]
theorem To{n:Int}(h:n<0∨n>1099511627776):fP n=false:=by
 rw[Bool.eq_false_iff,Ne,fQ];omega
def pr(p:Int×Int):AV:=.cD [.int .i64 p.1,.int .i64 p.2]
theorem W5{a b:Bool}(h:a=false∨b=false):(a&&b)=false:=by cases a<;>simp_all
def FC(n e:Int):Int×Int:=if e=0 then(if n>1099511627776 then(0,10) else(n,0)) else(0,e)
theorem PS{a b:Int}(ha:0≤a)(hb:0≤b):0≤a.tdiv b∧a.tdiv b≤a:=by
 rw[Int.tdiv_eq_ediv_of_nonneg ha];exact⟨Int.ediv_nonneg ha hb,Int.ediv_le_self _ ha⟩
def Dc(a b:Int):Int×Int:=if fP a&&fP b then(Nat.gcd a.toNat b.toNat,0) else(0,2)
def Sg(a b:Int):Int×Int:=if fP a&&fP b then(if a*b>1099511627776 then(0,10) else(a*b,0)) else(0,2)
theorem Vt(x:Int)(h:0≤x)(h2:x<2^64):((BitVec.ofInt IntKind.u64.bits x&&&BitVec.ofInt IntKind.u64.bits 4294967295).toNat:Int)=x%4294967296:=by
 obtain⟨n,rfl⟩:=Int.eq_ofNat_of_zero_le h;have h3:(BitVec.ofInt 64 (n:Int)).toNat=n:=by
  rw[BitVec.toNat_ofInt];omega
 show((BitVec.ofInt 64 (n:Int)&&&BitVec.ofInt 64 4294967295).toNat:Int)=_;rw[BitVec.toNat_and,h3,show(BitVec.ofInt 64 4294967295).toNat=2^32-1 by decide,Nat.and_two_pow_sub_one_eq_mod];omega
theorem Fz(x:Int):x.fdiv (2^(min (32:Int).toNat IntKind.u64.bits))=x/4294967296:=by
 show x.fdiv 4294967296=_;rw[Int.fdiv_eq_ediv_of_nonneg _ (by omega)]
theorem Ts(a b:Int)(ha:0≤a∧a≤1099511627776)(hb:0≤b∧b≤1099511627776):
  a*b=a/4294967296*(b/4294967296)*18446744073709551616+(a/4294967296*(b%4294967296)+a%4294967296*(b/4294967296))*4294967296+a%4294967296*(b%4294967296)∧
  (0≤a/4294967296*(b/4294967296)∧a/4294967296*(b/4294967296)≤65536)∧(0≤a/4294967296*(b%4294967296)∧a/4294967296*(b%4294967296)≤1099511627776)∧
  (0≤a%4294967296*(b/4294967296)∧a%4294967296*(b/4294967296)≤1099511627776)∧(0≤a%4294967296*(b%4294967296)∧a%4294967296*(b%4294967296)≤18446744065119617025):=by
 have hx:a=a/4294967296*4294967296+a%4294967296:=by omega
 have hy:b=b/4294967296*4294967296+b%4294967296:=by omega
 have x1:0≤a/4294967296∧a/4294967296≤256:=by omega
 have y1:0≤b/4294967296∧b/4294967296≤256:=by omega
 have x0:0≤a%4294967296∧a%4294967296≤4294967295:=by omega
 have y0:0≤b%4294967296∧b%4294967296≤4294967295:=by omega
 generalize a/4294967296=u at*;generalize a%4294967296=v at*;generalize b/4294967296=s at*;generalize b%4294967296=t at*;subst hx hy;refine⟨by grind,?_,?_,?_,?_⟩
 ·exact⟨Int.mul_nonneg x1.1 y1.1,Int.le_trans (Int.mul_le_mul x1.2 y1.2 y1.1 (by omega)) (by omega)⟩
 ·exact⟨Int.mul_nonneg x1.1 y0.1,Int.le_trans (Int.mul_le_mul x1.2 y0.2 y0.1 (by omega)) (by omega)⟩
 ·exact⟨Int.mul_nonneg x0.1 y1.1,Int.le_trans (Int.mul_le_mul x0.2 y1.2 y1.1 (by omega)) (by omega)⟩
 ·exact⟨Int.mul_nonneg x0.1 y0.1,Int.le_trans (Int.mul_le_mul x0.2 y0.2 y0.1 (by omega)) (by omega)⟩
theorem aaV(x:Int):pV (.bin .shr) [.int .u64 x,.int .i64 32]=some (.int .u64 (x/4294967296)):=by
 have:=Fz x;simp only[pV,Ok,l2,CM,zJ,kf,cond_true,nj];rw[this];rfl
theorem XE{k:IntKind}(x:Int):pV (.bin .shr) [.int .u64 x,.int k 32]=some (.int .u64 (x/4294967296)):=by
 have:=Fz x;simp only[pV,Ok,l2,CM,zJ,kf,cond_true,nj];rw[this];rfl
def cnt(p:Int×Int):ck:=.cells [.int .i64 p.1,.int .i64 p.2] true 0
def mT(p:Int×Int)(m:Int):Int×Int:=if p.2=0 then Sg p.1 (m.tdiv (Dc p.1 m).1) else p
def O4(b:Nat)(h h':Heap):Prop:=h'.next=h.next∧∀c,c≠b→h'.get c=h.get c
theorem O4.refl(b:Nat)(h:Heap):O4 b h h:=⟨rfl,fun _ _=>rfl⟩
theorem O4.trans{b:Nat}{h h1 h2:Heap}(x:O4 b h h1)(y:O4 b h1 h2):O4 b h h2:=⟨y.1.trans x.1,fun c hc=>(y.2 c hc).trans (x.2 c hc)⟩
theorem O4.set(b:Nat)(h:Heap)(x:ck):O4 b h (h.set b x):=⟨rfl,fun c hc=>by rw[Heap.bx,if_neg hc]⟩
def Vq(limit:Int)(l:List Int):Int×Int:=
 let p:=l.foldl mT (1,0)
 if fP limit&&(l.all fP&&!l.contains 0) then(if p.2=0∧p.1>limit then FC p.1 10 else FC p.1 p.2) else(0,2)
def Good(p:Int×Int):Prop:=p.2=0→fP p.1=true∧1≤p.1
theorem S5{p:Int×Int}{m:Int}(hm:fP m=true∧1≤m)(hg:Good p):Good (mT p m):=by
 intro h0;by_cases hp:p.2=0
 ·obtain⟨h1,h2⟩:=hg hp;have gp:=(fQ _).1 h1;have gm:=(fQ _).1 hm.1;have hgv:(Dc p.1 m).1=(Nat.gcd p.1.toNat m.toNat:Nat):=by simp[Dc,h1,hm.1]
  have hgp:0<Nat.gcd p.1.toNat m.toNat:=Nat.gcd_pos_of_pos_left _ (by omega);have hq1:1≤m.tdiv (Dc p.1 m).1:=by
   rw[hgv,Int.tdiv_eq_ediv_of_nonneg gm.1];have:Nat.gcd p.1.toNat m.toNat≤m.toNat:=Nat.gcd_le_right _ (by omega);exact(Int.le_ediv_iff_mul_le (by omega)).2 (by omega)
  simp only[mT,hp,if_true] at h0⊢;generalize m.tdiv (Dc p.1 m).1=q at*;simp only[Sg] at h0⊢;split at h0
  ·split at h0
   ·simp at h0
   ·rename_i h3 h4;rw[if_pos h3,if_neg h4];have:1≤p.1*q:=by
     have:=Int.mul_le_mul h2 hq1 (by omega) (by omega);omega
    exact⟨(fQ _).2 ⟨by omega,by simp only;omega⟩,this⟩
  ·simp at h0
 ·simp only[mT,hp,if_false] at h0
structure Tk where
 p:Int
 d:Int
 w:Int
 a:Int
 b:Int
 c:Int
 e:Int
 f:Int
def tk(t:Tk):AV:=.agg [.int .i64 t.p,.int .i64 t.d,.int .i64 t.w,.int .i64 t.a,.int .i64 t.b,.int .i64 t.c,.int .i64 t.e,.int .i64 t.f]
def ey(l:List Tk):List AV:=l.map tk
def gZ(t:Tk):Bool:=decide (1≤t.w∧t.w≤t.d∧t.d≤t.p∧t.p≤64)
theorem Vu(t:Tk):PC fs ms 107 [tk t] (.bool (gZ t)):=by
 refine cG rfl rfl ?_;refine ak (af:=LJ) false rfl (Nat.le_of_ble_eq_true rfl) ?_;generalize hQ:(fun(v:AV) (_:Heap)=>v=.bool (gZ t))=Q;conv=>whnf
 iterate 8 (all_goals (first|(refine br (fun hc=>?_) (fun hc=>?_)<;>(try rw[hc])<;>(conv=>whnf))|skip))
 all_goals (subst hQ;simp only[gZ];refine congrArg AV.bool ?_;rw[Bool.eq_iff_iff];simp at*;omega)
theorem bW(l:List Tk):cw (ey l)=true:=qp (enc:=tk) (fun _=>rfl) l
theorem bB(l:List Tk):(ey l).length=l.length:=List.length_map ..
theorem iH{l:List Tk}{j k:Nat}(hj:j<l.length):pV (.aG 8) [.fz k (ey l),.int .i64 (j:Nat)]=some (.fp (tk l[j]).cells 0):=vk (enc:=tk) hj rfl
def cA(l:List Tk):Bool:=l.all gZ&&decide (l.length≤4)
theorem RI{F:Nat}{aF:List AV}{p:Int→Bool}(k:Nat)(l:List Int)(hl:l.length<2^62)(hcap:cw aF=true)(hp:∀m,PC fs ms F (.int .i64 m::aF) (.bool (p m))):
  ∃n:Int,PC fs ms 104 [.fz k (ints l),.func (.func F) [] aF] (.int .i64 n)∧decide (n≥0)=l.any p:=by
 by_cases ha:l.any p=true
 ·obtain⟨j,hj,h1,h2⟩:=qz (l:=l) (p:=fun m=>p m=true) (by simpa using ha);refine⟨(j:Nat),?_,by rw[ha];simp⟩;refine cG (by simp[cw,AV.cl,bS,hcap]) rfl ?_;refine ak (af:=HL) false rfl (Nat.le_of_ble_eq_true rfl) ?_;generalize hQ:(fun(v:AV) (_:Heap)=>v=.int .i64 (j:Nat))=Q;conv=>whnf
  refine iZ 5 [(0,.fz k (ints l)),(1,.func (.func F) [] aF),(7,.int .i64 (ints l).length),(8,.int .i64 ((0:Nat):Int))] (by repeat' (first|exact trivial|refine cW rfl (by omega) ?_|refine cF rfl (by omega) ?_|refine bQ rfl (by omega) ?_|refine bl rfl (by first|rfl|simp[cw,AV.cl,bS,hcap]) ?_|refine bl (aL (by omega)) rfl ?_)) ?_;refine iT 5 j (fun _=>True) (fun i=>[(0,.fz k (ints l)),(1,.func (.func F) [] aF),(7,.int .i64 (ints l).length),(8,.int .i64 (i:Nat))]) ?_ ?_ trivial
  ·intro i hi _;conv=>whnf
   refine br (fun hc=>?_) (fun hc=>?_)<;>(try rw[hc])<;>(conv=>whnf)
   ·refine⟨_,n9 (by omega),?_⟩;conv=>whnf
    refine aO (hp _) ?_;conv=>whnf
    refine br (fun hc=>?_) (fun hc=>?_)<;>(try rw[hc])<;>(conv=>whnf)
    ·exact absurd hc (h2 i (by omega) hi)
    ·refine⟨trivial,⟨_,rfl,.cl (by simp[AV.cl,bS])⟩,⟨_,rfl,.cl (by simp[AV.cl,cw,hcap])⟩,⟨_,rfl,.cl rfl⟩,⟨_,aL (by omega),.cl rfl⟩,trivial⟩
   ·exfalso;have:=of_decide_eq_false hc;rw[cm] at this;omega
  ·intro _;conv=>whnf
   refine br (fun hc=>?_) (fun hc=>?_)<;>(try rw[hc])<;>(conv=>whnf)
   ·refine⟨_,n9 hj,?_⟩;conv=>whnf
    refine aO (hp _) ?_;conv=>whnf
    refine br (fun hc=>?_) (fun hc=>?_)<;>(try rw[hc])<;>(conv=>whnf)
    ·subst hQ;rfl
    ·rw[h1] at hc;simp at hc
   ·exfalso;have:=of_decide_eq_false hc;rw[cm] at this;omega
 ·have hn:∀m,m∈l→p m=false:=by
   intro m hm;rw[Bool.eq_false_iff];intro h;exact ha (List.any_eq_true.2 ⟨m,hm,h⟩)
  refine⟨-1,?_,by rw[Bool.eq_false_iff.2 ha];decide⟩;refine cG (by simp[cw,AV.cl,bS,hcap]) rfl ?_;refine ak (af:=HL) false rfl (Nat.le_of_ble_eq_true rfl) ?_;generalize hQ:(fun(v:AV) (_:Heap)=>v=.int .i64 (-1))=Q;conv=>whnf
  refine iZ 5 [(0,.fz k (ints l)),(1,.func (.func F) [] aF),(7,.int .i64 (ints l).length),(8,.int .i64 ((0:Nat):Int))] (by repeat' (first|exact trivial|refine cW rfl (by omega) ?_|refine cF rfl (by omega) ?_|refine bQ rfl (by omega) ?_|refine bl rfl (by first|rfl|simp[cw,AV.cl,bS,hcap]) ?_|refine bl (aL (by omega)) rfl ?_)) ?_;refine iT 5 l.length (fun _=>True) (fun i=>[(0,.fz k (ints l)),(1,.func (.func F) [] aF),(7,.int .i64 (ints l).length),(8,.int .i64 (i:Nat))]) ?_ ?_ trivial
  ·intro i hi _;conv=>whnf
   refine br (fun hc=>?_) (fun hc=>?_)<;>(try rw[hc])<;>(conv=>whnf)
   ·refine⟨_,n9 (by omega),?_⟩;conv=>whnf
    refine aO (hp _) ?_;conv=>whnf
    refine br (fun hc=>?_) (fun hc=>?_)<;>(try rw[hc])<;>(conv=>whnf)
    ·rw[hn _ (List.getElem_mem hi)] at hc;simp at hc
    ·refine⟨trivial,⟨_,rfl,.cl (by simp[AV.cl,bS])⟩,⟨_,rfl,.cl (by simp[AV.cl,cw,hcap])⟩,⟨_,rfl,.cl rfl⟩,⟨_,aL (by omega),.cl rfl⟩,trivial⟩
   ·exfalso;have:=of_decide_eq_false hc;rw[cm] at this;omega
  ·intro _;conv=>whnf
   refine br (fun hc=>?_) (fun hc=>?_)<;>(try rw[hc])<;>(conv=>whnf)
   ·exfalso;have:=of_decide_eq_true hc;rw[cm] at this;omega
   ·subst hQ;rfl
theorem TM{F:Nat}{aF:List AV}{p:Int→Bool}(k:Nat)(l:List Int)(hl:l.length<2^62)(hcap:cw aF=true)(hp:∀m,PC fs ms F (.int .i64 m::aF) (.bool (p m))):
  PC fs ms 40 [.fz k (ints l),.func (.func F) [] aF] (.bool (l.any p)):=by
 obtain⟨n,c1,c2⟩:=RI k l hl hcap hp;refine cG (by simp[cw,AV.cl,bS,hcap]) rfl ?_;refine ak (af:=Wm) false rfl (Nat.le_of_ble_eq_true rfl) ?_;generalize hQ:(fun(v:AV) (_:Heap)=>v=.bool (l.any p))=Q;conv=>whnf
 refine aO c1 ?_;conv=>whnf
 subst hQ;exact congrArg AV.bool c2
theorem RJ{F:Nat}{aF:List AV}{p:Tk→Bool}(k:Nat)(l:List Tk)(hl:l.length<2^62)(hcap:cw aF=true)(hp:∀m,m∈l→PC fs ms F (tk m::aF) (.bool (p m))):
  ∃n:Int,PC fs ms 149 [.fz k (ey l),.func (.func F) [] aF] (.int .i64 n)∧decide (n≥0)=l.any p:=by
 by_cases ha:l.any p=true
 ·obtain⟨j,hj,h1,h2⟩:=qz (l:=l) (p:=fun m=>p m=true) (by simpa using ha);refine⟨(j:Nat),?_,by rw[ha];simp⟩;refine cG (by simp[cw,AV.cl,bW,hcap]) rfl ?_;refine ak (af:=HO) false rfl (Nat.le_of_ble_eq_true rfl) ?_;generalize hQ:(fun(v:AV) (_:Heap)=>v=.int .i64 (j:Nat))=Q;conv=>whnf
  refine iZ 5 [(0,.fz k (ey l)),(1,.func (.func F) [] aF),(7,.int .i64 (ey l).length),(8,.int .i64 ((0:Nat):Int))] (by repeat' (first|exact trivial|refine cW rfl (by omega) ?_|refine cF rfl (by omega) ?_|refine bQ rfl (by omega) ?_|refine bl rfl (by first|rfl|simp[cw,AV.cl,bS,bW,hcap]) ?_|refine bl (aL (by omega)) rfl ?_)) ?_;refine iT 5 j (fun _=>True) (fun i=>[(0,.fz k (ey l)),(1,.func (.func F) [] aF),(7,.int .i64 (ey l).length),(8,.int .i64 (i:Nat))]) ?_ ?_ trivial
  ·intro i hi _;conv=>whnf
   refine br (fun hc=>?_) (fun hc=>?_)<;>(try rw[hc])<;>(conv=>whnf)
   ·refine⟨_,iH (by omega),?_⟩;conv=>whnf
    refine aO (hp _ (List.getElem_mem _)) ?_;conv=>whnf
    refine br (fun hc=>?_) (fun hc=>?_)<;>(try rw[hc])<;>(conv=>whnf)
    ·exact absurd hc (h2 i (by omega) hi)
    ·refine⟨trivial,⟨_,rfl,.cl (by simp[AV.cl,bW])⟩,⟨_,rfl,.cl (by simp[AV.cl,cw,hcap])⟩,⟨_,rfl,.cl rfl⟩,⟨_,aL (by omega),.cl rfl⟩,trivial⟩
   ·exfalso;have:=of_decide_eq_false hc;rw[bB] at this;omega
  ·intro _;conv=>whnf
   refine br (fun hc=>?_) (fun hc=>?_)<;>(try rw[hc])<;>(conv=>whnf)
   ·refine⟨_,iH hj,?_⟩;conv=>whnf
    refine aO (hp _ (List.getElem_mem _)) ?_;conv=>whnf
    refine br (fun hc=>?_) (fun hc=>?_)<;>(try rw[hc])<;>(conv=>whnf)
    ·subst hQ;rfl
    ·rw[h1] at hc;simp at hc
   ·exfalso;have:=of_decide_eq_false hc;rw[bB] at this;omega
 ·have hn:∀m,m∈l→p m=false:=by
   intro m hm;rw[Bool.eq_false_iff];intro h;exact ha (List.any_eq_true.2 ⟨m,hm,h⟩)
  refine⟨-1,?_,by rw[Bool.eq_false_iff.2 ha];decide⟩;refine cG (by simp[cw,AV.cl,bW,hcap]) rfl ?_;refine ak (af:=HO) false rfl (Nat.le_of_ble_eq_true rfl) ?_;generalize hQ:(fun(v:AV) (_:Heap)=>v=.int .i64 (-1))=Q;conv=>whnf
  refine iZ 5 [(0,.fz k (ey l)),(1,.func (.func F) [] aF),(7,.int .i64 (ey l).length),(8,.int .i64 ((0:Nat):Int))] (by repeat' (first|exact trivial|refine cW rfl (by omega) ?_|refine cF rfl (by omega) ?_|refine bQ rfl (by omega) ?_|refine bl rfl (by first|rfl|simp[cw,AV.cl,bS,bW,hcap]) ?_|refine bl (aL (by omega)) rfl ?_)) ?_;refine iT 5 l.length (fun _=>True) (fun i=>[(0,.fz k (ey l)),(1,.func (.func F) [] aF),(7,.int .i64 (ey l).length),(8,.int .i64 (i:Nat))]) ?_ ?_ trivial
  ·intro i hi _;conv=>whnf
   refine br (fun hc=>?_) (fun hc=>?_)<;>(try rw[hc])<;>(conv=>whnf)
   ·refine⟨_,iH (by omega),?_⟩;conv=>whnf
    refine aO (hp _ (List.getElem_mem _)) ?_;conv=>whnf
    refine br (fun hc=>?_) (fun hc=>?_)<;>(try rw[hc])<;>(conv=>whnf)
    ·rw[hn _ (List.getElem_mem hi)] at hc;simp at hc
    ·refine⟨trivial,⟨_,rfl,.cl (by simp[AV.cl,bW])⟩,⟨_,rfl,.cl (by simp[AV.cl,cw,hcap])⟩,⟨_,rfl,.cl rfl⟩,⟨_,aL (by omega),.cl rfl⟩,trivial⟩
   ·exfalso;have:=of_decide_eq_false hc;rw[bB] at this;omega
  ·intro _;conv=>whnf
   refine br (fun hc=>?_) (fun hc=>?_)<;>(try rw[hc])<;>(conv=>whnf)
   ·exfalso;have:=of_decide_eq_true hc;rw[bB] at this;omega
   ·subst hQ;rfl
theorem TN{F:Nat}{aF:List AV}{p:Tk→Bool}(k:Nat)(l:List Tk)(hl:l.length<2^62)(hcap:cw aF=true)(hp:∀m,m∈l→PC fs ms F (tk m::aF) (.bool (p m))):
  PC fs ms 105 [.fz k (ey l),.func (.func F) [] aF] (.bool (l.any p)):=by
 obtain⟨n,c1,c2⟩:=RJ k l hl hcap hp;refine cG (by simp[cw,AV.cl,bW,hcap]) rfl ?_;refine ak (af:=LH) false rfl (Nat.le_of_ble_eq_true rfl) ?_;generalize hQ:(fun(v:AV) (_:Heap)=>v=.bool (l.any p))=Q;conv=>whnf
 refine aO c1 ?_;conv=>whnf
 subst hQ;exact congrArg AV.bool c2
theorem Ia(t:Tk):PC fs ms 106 [tk t] (.bool (!gZ t)):=by
 refine cG rfl rfl ?_;refine ak (af:=LI) false rfl (Nat.le_of_ble_eq_true rfl) ?_;generalize hQ:(fun(v:AV) (_:Heap)=>v=.bool (!gZ t))=Q;conv=>whnf
 refine aO (Vu _) ?_;conv=>whnf
 subst hQ;rfl
theorem MR(l:List Tk):(l.any fun t=>!gZ t)=!l.all gZ:=by
 induction l with
 |nil=>rfl
 |cons t l ih=>simp only[List.any_cons,List.all_cons,ih,Bool.not_and]
theorem TH(k:Nat)(l:List Tk)(hl:l.length<2^62):PC fs ms 42 [.fz k (ey l)] (.bool (cA l)):=by
 refine cG (by simp[cw,AV.cl,bW]) rfl ?_;refine ak (af:=Wo) false rfl (Nat.le_of_ble_eq_true rfl) ?_;generalize hQ:(fun(v:AV) (_:Heap)=>v=.bool (cA l))=Q;conv=>whnf
 refine br (fun hc=>?_) (fun hc=>?_)<;>(try rw[hc])<;>(conv=>whnf)
 ·refine aO (TN k l hl rfl (fun m _=>Ia m)) ?_;conv=>whnf
  subst hQ;refine congrArg AV.bool ?_;have:=of_decide_eq_true hc;rw[bB] at this;rw[MR,Bool.not_not,cA,decide_eq_true (by omega),Bool.and_true]
 ·subst hQ;refine congrArg AV.bool ?_;have:=of_decide_eq_false hc;rw[bB] at this;rw[cA,decide_eq_false (by omega),Bool.and_false]
def lz(n:Int):Bool:=decide (n<0)||decide (n>32768)
theorem CR(n:Int):PC fs ms 41 [.int .i64 n] (.bool (lz n)):=by
 refine cG rfl rfl ?_;refine ak (af:=Wn) false rfl (Nat.le_of_ble_eq_true rfl) ?_;generalize hQ:(fun(v:AV) (_:Heap)=>v=.bool (lz n))=Q;conv=>whnf
 refine br (fun hc=>?_) (fun hc=>?_)<;>(try rw[hc])<;>(conv=>whnf)
 ·subst hQ;simp only[lz,hc,Bool.true_or]
 ·subst hQ;simp only[lz,hc,Bool.false_or]
def cT(l:List Tk)(a:List Int):Int:=if a.any lz=false∧cA l=true∧a.length=l.length then 0 else 2
theorem vc(k k':Nat)(l:List Tk)(a:List Int)(hl:l.length<2^62)(ha:a.length<2^62):PC fs ms 10 [.fz k (ey l),.fz k' (ints a)] (.int .i64 (cT l a)):=by
 refine cG (by simp[cw,AV.cl,bW,bS]) rfl ?_;refine ak (af:=V2) false rfl (Nat.le_of_ble_eq_true rfl) ?_;generalize hQ:(fun(v:AV) (_:Heap)=>v=.int .i64 (cT l a))=Q;conv=>whnf
 refine aO (TM k' a ha rfl CR) ?_;conv=>whnf
 refine br (fun hc=>?_) (fun hc=>?_)<;>(try rw[hc])<;>(conv=>whnf)
 ·subst hQ;simp[cT,hc]
 ·refine aO (TH k l hl) ?_;have h1:=hc;conv=>whnf
  refine br (fun hc=>?_) (fun hc=>?_)<;>(try rw[hc])<;>(conv=>whnf)
  ·subst hQ;simp at hc;simp[cT,hc]
  ·have h2:=hc;refine br (fun hc=>?_) (fun hc=>?_)<;>(try rw[hc])<;>(conv=>whnf)
   ·subst hQ;simp[cm,bB] at hc;rw[cT,if_neg (fun h=>by omega)]
   ·subst hQ;simp[cm,bB] at hc;simp at h2;rw[cT,if_pos ⟨h1,h2,by omega⟩]
end Ir
end Go.Proofs.YtnlcabhfkpafmaaGreat
namespace Go.Proofs.YtnlcabhfkpafmaaGreat
open Go Ads
namespace Ir
def E5(n:Int)(t:Tk):Int:=if n<t.d then 0 else IntKind.i64.wrap (1+IntKind.i64.wrap ((IntKind.i64.wrap (n-t.d)).tdiv t.p))
def xk(l:List Int):Int:=l.foldl (fun s x=>IntKind.i64.wrap (s+x)) 0
def abh(ts:List Int)(j:Nat):Heap:=⟨1,.node .nil (some (.cells (ints (oN ts j)) true 0)) .nil⟩
def CK(q:Tk→Int)(l:List Tk)(a:List Int):List Int:=List.zipWith (fun t m=>IntKind.i64.wrap (q t*IntKind.i64.wrap (t.w+m))) l a
def dOf(l:List Tk)(a:List Int)(n:Int):Int×Int:=if cT l a=0∧0≤n∧n≤1048576 then(xk (CK (E5 n) l a),0) else(0,2)
def abX(p:Int×Int):AV:=.cD [.int .i64 p.1,.int .i64 p.2]
theorem Bg{l:List Tk}{a:List Int}(h:cT l a=0):a.any lz=false∧cA l=true∧a.length=l.length:=by
 unfold cT at h;split at h
 ·assumption
 ·simp at h
theorem Tw{l:List Tk}(h:cA l=true){t:Tk}(ht:t∈l):gZ t=true∧1≤t.p:=by
 simp only[cA,Bool.and_eq_true,List.all_eq_true,decide_eq_true_eq] at h;have:gZ t=true:=by first|exact h.1 t ht|exact h.2 t ht
 refine⟨this,?_⟩;simp only[gZ,decide_eq_true_eq] at this;omega
theorem PR{l:List Tk}(h:cA l=true):l.length≤4:=by
 simp only[cA,Bool.and_eq_true,decide_eq_true_eq] at h;first|exact h.1|exact h.2
theorem Tv{l:List Int}{j:Nat}(h:j<l.length):xk (l.take (j+1))=IntKind.i64.wrap (xk (l.take j)+l[j]):=by
 rw[gy h,xk,List.foldl_append];rfl
theorem XF(l:List Int):IntKind.i64.wrap (xk l)=xk l:=by
 rcases List.eq_nil_or_concat l with h|⟨m,x,h⟩
 ·subst h;rfl
 ·subst h;rw[List.concat_eq_append,xk,List.foldl_append];show IntKind.i64.wrap (IntKind.i64.wrap (_+x))=IntKind.i64.wrap (_+x);exact wrap_wrap _
def OZ(n:Int)(t:Tk):Int:=IntKind.i64.wrap (n.tdiv t.p)
def Si(n:Int)(t:Tk):Bool:=n.tmod t.p !=0
def TS(l:List Tk)(a:List Int)(n:Int):Int×Int:=if cT l a=0∧1≤n∧n≤1048576∧l.any (Si n)=false then(xk (CK (OZ n) l a),0) else(0,2)
theorem TJ{α:Type}{l:List α}{p:α→Bool}{j:Nat}(hj:j<l.length)(h:p l[j]=true):l.any p=true:=List.any_eq_true.2 ⟨l[j],List.getElem_mem hj,h⟩
theorem AU{α:Type}{l:List α}{p:α→Bool}{j:Nat}(hj:j<l.length)(hi:(l.take j).any p=false)(h:p l[j]=false):(l.take (j+1)).any p=false:=by
 rw[gy hj,List.any_append,hi];simp[h]
theorem BY{a n:Nat}(ha:1≤a)(Zv:a≤1048576)(hn:1≤n)(hn2:n≤1048576):mT ((a:Int),0) n=(((Nat.lcm a n:Nat):Int),0):=by
 have ta:fP (a:Int)=true:=(fQ _).2 (by omega);have tn:fP (n:Int)=true:=(fQ _).2 (by omega);have hL:Nat.lcm a n=a*(n/Nat.gcd a n):=by
  rw[Nat.lcm,Nat.mul_div_assoc _ (Nat.gcd_dvd_right a n)]
 have g2:Dc a n=(((Nat.gcd a n:Nat):Int),0):=by simp[Dc,ta,tn]
 have hq:(n:Int).tdiv (Nat.gcd a n:Nat)=((n/Nat.gcd a n:Nat):Int):=by rw[Int.ofNat_tdiv]
 have hle:n/Nat.gcd a n≤1048576:=by have:=Nat.div_le_self n (Nat.gcd a n);omega
 have tq:fP ((n/Nat.gcd a n:Nat):Int)=true:=(fQ _).2 (by generalize n/Nat.gcd a n=q at*;omega);have hmul:(a:Int)*((n/Nat.gcd a n:Nat):Int)=((Nat.lcm a n:Nat):Int):=by rw[hL];simp
 have hb:Nat.lcm a n≤1048576*1048576:=by rw[hL];exact Nat.mul_le_mul Zv hle
 simp only[mT,if_true,g2,hq,Sg,ta,tq,Bool.and_self,hmul];rw[if_neg (by omega)]
theorem Xz{a n:Nat}(ha:1≤a)(Zv:a≤4096)(hn:1≤n)(hn2:n≤64):Vq 4096 [(a:Int),(n:Int)]=(if Nat.lcm a n≤4096 then(((Nat.lcm a n:Nat):Int),(0:Int)) else(0,10)):=by
 have ta:fP (a:Int)=true:=(fQ _).2 (by omega);have tn:fP (n:Int)=true:=(fQ _).2 (by omega);have f:[(a:Int),(n:Int)].foldl mT (1,0)=(((Nat.lcm a n:Nat):Int),0):=by
  have h1:mT (1,0) (a:Int)=((a:Int),0):=by
   have:=BY (a:=1) (n:=a) (by omega) (by omega) ha (by omega)
   rwa [Nat.lcm_one_left] at this
  simp only[List.foldl_cons,List.foldl_nil,h1];exact BY ha (by omega) hn (by omega)
 have hc:(fP 4096&&([(a:Int),(n:Int)].all fP&&![(a:Int),(n:Int)].contains 0))=true:=by
  have e1:fP 4096=true:=rfl;simp[e1,ta,tn];omega
 have hb:Nat.lcm a n≤1048576:=Nat.le_trans (Nat.le_of_dvd (Nat.mul_pos ha hn) (Nat.lcm_dvd_mul a n)) (Nat.le_trans (Nat.mul_le_mul Zv hn2) (by decide));simp only[Vq,f,hc,if_true];by_cases h:Nat.lcm a n≤4096
 ·rw[if_neg (by rintro⟨_,x⟩;omega),FC,if_pos rfl,if_neg (by omega),if_pos h]
 ·rw[if_pos ⟨trivial,by omega⟩,FC,if_neg (by decide),if_neg h]
def Sl(l:List Tk):List Nat:=l.map (·.p.toNat)
def pN(l:List Tk)(n:Nat):Nat:=(Sl l).foldl Nat.lcm n
def RC(l:List Tk)(n:Int):Int×Int:=if cA l=true∧1≤n∧n≤64 then(if pN l n.toNat≤4096 then((pN l n.toNat:Nat),0) else(0,5)) else(0,2)
theorem Ve{l:List Tk}{j:Nat}(hj:j<l.length)(n:Nat):pN (l.take (j+1)) n=Nat.lcm (pN (l.take j) n) l[j].p.toNat:=by
 simp only[pN,Sl];rw[gy hj];simp only[List.map_append,List.foldl_append];rfl
theorem BM(t:Tk)(l:List Tk)(n:Nat):pN (t::l) n=pN l (Nat.lcm n t.p.toNat):=rfl
theorem EP(l:List Tk):∀(n m:Nat),pN l n∣m↔n∣m∧∀t,t∈l→t.p.toNat∣m:=by
 induction l with
 |nil=>intro n m;simp[pN,Sl]
 |cons t l ih=>
  intro n m;rw[BM,ih,Nat.lcm_dvd_iff];constructor
  ·rintro⟨⟨x,y⟩,z⟩;exact⟨x,fun u hu=>by rcases List.mem_cons.1 hu with h|h;exact h▸y;exact z u h⟩
  ·rintro⟨x,y⟩;exact⟨⟨x,y t List.mem_cons_self⟩,fun u hu=>y u (List.mem_cons_of_mem _ hu)⟩
theorem ES{l:List Tk}(h:∀t,t∈l→1≤t.p):∀{n:Nat},1≤n→1≤pN l n:=by
 induction l with
 |nil=>intro n hn;exact hn
 |cons t l ih=>
  intro n hn;rw[BM];exact ih (fun u hu=>h u (List.mem_cons_of_mem _ hu)) (Nat.lcm_pos hn (by have:=h t List.mem_cons_self;omega))
theorem Vd{l:List Tk}(h:∀t,t∈l→1≤t.p){n:Nat}(hn:1≤n)(j:Nat):pN (l.take j) n≤pN l n:=by
 refine Nat.le_of_dvd (ES h hn) ?_;rw[EP];have:=(EP l n (pN l n)).1 (Nat.dvd_refl _);exact⟨this.1,fun t ht=>this.2 t (List.mem_of_mem_take ht)⟩
theorem ze:∀(l:List Int) (s:Int),(∀x,x∈l→0≤x∧x≤4503599627370496)→0≤s→s+l.length*4503599627370496≤4611686018427387904→l.foldl (fun s x=>IntKind.i64.wrap (s+x)) s=s+l.sum
 |[],s,_,_,_=>by simp
 |x::l,s,h,h0,h1=>by
  have hx:=h x List.mem_cons_self;simp only[List.length_cons] at h1;have e:IntKind.i64.wrap (s+x)=s+x:=IntWalk.i64_in _ (by omega);rw[List.foldl_cons,e,ze l (s+x) (fun y hy=>h y (List.mem_cons_of_mem _ hy)) (by omega) (by omega),List.sum_cons];omega
theorem D3{l:List Int}(h:∀x,x∈l→0≤x∧x≤4503599627370496)(hl:l.length≤1024):xk l=l.sum:=by
 rw[xk,ze l 0 h (by omega) (by omega)];omega
def CH(t:Tk):Prop:=1≤t.w∧t.w≤t.d∧t.d≤t.p∧t.p≤64
def iE(q:Tk→Int)(l:List Tk)(a:List Int):List Int:=List.zipWith (fun t m=>q t*(t.w+m)) l a
theorem tK{q:Tk→Int}:∀(l:List Tk) (a:List Int),(∀t,t∈l→CH t∧0≤q t∧q t≤1073741824)→(∀m,m∈a→0≤m∧m≤32768)→CK q l a=iE q l a∧∀x,x∈iE q l a→0≤x∧x≤4503599627370496
 |[],a,_,_=>by simp[CK,iE]
 |t::l,[],_,_=>by simp[CK,iE]
 |t::l,m::a,h1,h2=>by
  obtain⟨o,q1,q2⟩:=h1 t List.mem_cons_self;obtain⟨m1,m2⟩:=h2 m List.mem_cons_self;obtain⟨i1,i2⟩:=tK l a (fun t ht=>h1 t (List.mem_cons_of_mem _ ht)) (fun m hm=>h2 m (List.mem_cons_of_mem _ hm));obtain⟨o1,o2,o3,o4⟩:=o;have e1:IntKind.i64.wrap (t.w+m)=t.w+m:=IntWalk.i64_in _ (by omega);have b1:0≤q t*(t.w+m):=Int.mul_nonneg q1 (by omega);have b2:q t*(t.w+m)≤1073741824*33000:=Int.mul_le_mul q2 (by omega) (by omega) (by omega);have e2:IntKind.i64.wrap (q t*(t.w+m))=q t*(t.w+m):=IntWalk.i64_in _ (by omega);constructor
  ·show IntKind.i64.wrap (q t*IntKind.i64.wrap (t.w+m))::CK q l a=q t*(t.w+m)::iE q l a;rw[e1,e2,i1]
  ·intro x hx;rcases List.mem_cons.1 hx with h|h
   ·have h':x=q t*(t.w+m):=h;rw[h'];omega
   ·exact i2 x h
theorem zf:∀(l:List Int),(∀x,x∈l→0≤x∧x≤4503599627370496)→0≤l.sum∧l.sum≤l.length*4503599627370496
 |[],_=>by simp
 |x::l,h=>by
  have hx:=h x List.mem_cons_self;have:=zf l (fun y hy=>h y (List.mem_cons_of_mem _ hy));simp only[List.sum_cons,List.length_cons];omega
theorem aaZ{q:Tk→Int}{l:List Tk}{a:List Int}(h1:∀t,t∈l→CH t∧0≤q t∧q t≤1073741824)(h2:∀m,m∈a→0≤m∧m≤32768)(hl:l.length≤1024):0≤(iE q l a).sum∧(iE q l a).sum≤4611686018427387904:=by
 have:=zf _ (tK l a h1 h2).2;have h3:(iE q l a).length≤1024:=by simp[iE];omega
 omega
theorem FB{q:Tk→Int}{l:List Tk}{a:List Int}(h1:∀t,t∈l→CH t∧0≤q t∧q t≤1073741824)(h2:∀m,m∈a→0≤m∧m≤32768)(hl:l.length≤1024):xk (CK q l a)=(iE q l a).sum:=by
 obtain⟨i1,i2⟩:=tK l a h1 h2;rw[i1,D3 i2 (by simp[iE];omega)]
def nA(n:Int)(t:Tk):Int:=if n<t.d then 0 else 1+(n-t.d)/t.p
theorem wm{n:Int}{t:Tk}(h:CH t)(h0:0≤n)(h1:n≤1048576):E5 n t=nA n t∧0≤nA n t∧nA n t≤1048577:=by
 obtain⟨o1,o2,o3,o4⟩:=h;unfold E5 nA;split
 ·simp
 ·rename_i hn;have e1:IntKind.i64.wrap (n-t.d)=n-t.d:=IntWalk.i64_in _ (by omega);have e2:(n-t.d).tdiv t.p=(n-t.d)/t.p:=Int.tdiv_eq_ediv_of_nonneg (by omega);have b1:0≤(n-t.d)/t.p:=Int.ediv_nonneg (by omega) (by omega);have b2:(n-t.d)/t.p≤n-t.d:=Int.ediv_le_self _ (by omega);rw[e1,e2];generalize(n-t.d)/t.p=z at*;rw[IntWalk.i64_in z (by omega),IntWalk.i64_in _ (by omega)];omega
theorem zh{n:Int}{t:Tk}(h:CH t)(h0:0≤n)(h1:n≤1048576):OZ n t=n/t.p∧0≤n/t.p∧n/t.p≤1048576:=by
 obtain⟨o1,o2,o3,o4⟩:=h;have e2:n.tdiv t.p=n/t.p:=Int.tdiv_eq_ediv_of_nonneg h0;have b1:0≤n/t.p:=Int.ediv_nonneg (by omega) (by omega);have b2:n/t.p≤n:=Int.ediv_le_self _ h0;rw[OZ,e2];generalize n/t.p=z at*;rw[IntWalk.i64_in z (by omega)];omega
theorem RT{n h:Int}{t:Tk}(o:CH t)(hn:64≤n)(hd:t.p∣h)(hh:0≤h):nA (n+h) t=nA n t+h/t.p:=by
 obtain⟨o1,o2,o3,o4⟩:=o;obtain⟨c,rfl⟩:=hd;rw[nA,nA,if_neg (by omega),if_neg (by omega),Int.mul_ediv_cancel_left c (by omega),show n+t.p*c-t.d=n-t.d+t.p*c by omega,Int.add_mul_ediv_left _ _ (by omega)];omega
theorem Tp{n m:Int}{t:Tk}(o:CH t)(h0:0≤n)(h:n≤m):nA n t≤nA m t:=by
 obtain⟨o1,o2,o3,o4⟩:=o;unfold nA;split
 ·split
  ·omega
  ·have:=Int.ediv_nonneg (a:=m-t.d) (b:=t.p) (by omega) (by omega);omega
 ·rw[if_neg (by omega)];have:=Int.ediv_le_ediv (a:=n-t.d) (b:=m-t.d) (c:=t.p) (by omega) (by omega);omega
theorem vD{q r:Tk→Int}:∀(l:List Tk) (a:List Int),(∀t,t∈l→q t=r t)→iE q l a=iE r l a
 |[],a,_=>by simp[iE]
 |t::l,[],_=>by simp[iE]
 |t::l,m::a,h=>by
  show q t*(t.w+m)::iE q l a=r t*(t.w+m)::iE r l a;rw[h t List.mem_cons_self,vD l a fun u hu=>h u (List.mem_cons_of_mem _ hu)]
theorem MU{q r s:Tk→Int}:∀(l:List Tk) (a:List Int),(∀t,t∈l→q t=r t+s t)→(iE q l a).sum=(iE r l a).sum+(iE s l a).sum
 |[],a,_=>by simp[iE]
 |t::l,[],_=>by simp[iE]
 |t::l,m::a,h=>by
  show(q t*(t.w+m)::iE q l a).sum=(r t*(t.w+m)::iE r l a).sum+(s t*(t.w+m)::iE s l a).sum;have:=MU (q:=q) (r:=r) (s:=s) l a fun u hu=>h u (List.mem_cons_of_mem _ hu);rw[List.sum_cons,List.sum_cons,List.sum_cons,h t List.mem_cons_self,this,Int.add_mul];omega
theorem Io{q r:Tk→Int}:∀(l:List Tk) (a:List Int),(∀t,t∈l→CH t∧q t≤r t)→(∀m,m∈a→0≤m)→(iE q l a).sum≤(iE r l a).sum
 |[],a,_,_=>by simp[iE]
 |t::l,[],_,_=>by simp[iE]
 |t::l,m::a,h,h2=>by
  show(q t*(t.w+m)::iE q l a).sum≤(r t*(t.w+m)::iE r l a).sum;have:=Io (q:=q) (r:=r) l a (fun u hu=>h u (List.mem_cons_of_mem _ hu)) (fun m hm=>h2 m (List.mem_cons_of_mem _ hm));obtain⟨⟨o1,o2,o3,o4⟩,hq⟩:=h t List.mem_cons_self;have hm:=h2 m List.mem_cons_self;have:=Int.mul_le_mul_of_nonneg_right hq (show 0≤t.w+m by omega);rw[List.sum_cons,List.sum_cons];omega
theorem xl{l:List Tk}(h:∀t,t∈l→CH t)(hl:l.length≤4):cA l=true:=by
 have:l.all gZ=true:=by
  rw[List.all_eq_true];intro t ht;have:=h t ht;simp only[CH] at this;simp only[gZ,decide_eq_true_eq];omega
 simp[cA,this,hl]
theorem uz{l:List Tk}{a:List Int}(h:∀t,t∈l→CH t)(hl:l.length≤4)(ha:∀m,m∈a→0≤m∧m≤32768)(hla:a.length=l.length):cT l a=0:=by
 have:a.any lz=false:=by
  rw[List.any_eq_false];intro m hm;have:=ha m hm;simp only[lz,decide_eq_true_eq];simp;omega
 rw[cT,if_pos ⟨this,xl h hl,hla⟩]
theorem Zc{l:List Tk}{a:List Int}{n:Int}(h:∀t,t∈l→CH t)(hl:l.length≤4)(ha:∀m,m∈a→0≤m∧m≤32768)(hla:a.length=l.length)(h0:0≤n)(h1:n≤1048576):
  dOf l a n=((iE (nA n) l a).sum,0):=by
 rw[dOf,if_pos ⟨uz h hl ha hla,h0,h1⟩];have hq:∀t,t∈l→E5 n t=nA n t:=fun t ht=>(wm (h t ht) h0 h1).1;rw[FB (fun t ht=>⟨h t ht,by have:=wm (h t ht) h0 h1;rw[this.1];omega⟩) ha (by omega),vD l a hq]
theorem aat{l:List Tk}{n:Int}(h:∀t,t∈l→CH t)(hl:l.length≤4)(h1:1≤n)(h2:n≤64):(RC l n=(((pN l n.toNat:Nat):Int),0)∧pN l n.toNat≤4096∧1≤pN l n.toNat)∨RC l n=(0,5):=by
 rw[RC,if_pos ⟨xl h hl,h1,h2⟩];by_cases h4:pN l n.toNat≤4096
 ·rw[if_pos h4];exact .inl ⟨rfl,h4,ES (fun t ht=>by have:=h t ht;simp only[CH] at this;omega) (by omega)⟩
 ·rw[if_neg h4];exact .inr rfl
theorem W9{l:List Tk}{a:List Int}{n:Int}(h:∀t,t∈l→CH t)(hl:l.length≤4)(ha:∀m,m∈a→0≤m∧m≤32768)(hla:a.length=l.length)(h0:1≤n)(h1:n≤1048576)(hd:∀t,t∈l→t.p∣n):
  TS l a n=((iE (fun t=>n/t.p) l a).sum,0):=by
 have Z8:l.any (Si n)=false:=by
  rw[List.any_eq_false];intro t ht;have:n.tmod t.p=0:=Int.tmod_eq_zero_of_dvd (hd t ht);simp[Si,this]
 rw[TS,if_pos ⟨uz h hl ha hla,h0,h1,Z8⟩];have hq:∀t,t∈l→OZ n t=n/t.p:=fun t ht=>(zh (h t ht) (by omega) h1).1;rw[FB (fun t ht=>⟨h t ht,by have:=zh (h t ht) (by omega) h1;rw[this.1];omega⟩) ha (by omega),vD l a hq]
end Ir
end Go.Proofs.YtnlcabhfkpafmaaGreat
namespace Go.Proofs.YtnlcabhfkpafmaaGreat
open Go Ads
namespace Ads
theorem DZ{h:Heap}{b s n cap:Nat}{op wr:Bool}{es:Nat}{cs:List AV}(hg:h.get b=some (.cells cs wr es))(hl:cs.length=n*s):eJ s h (.sl b 0 n cap op)=some (n,cs):=by
 have b1:Nat.ble (0+n*s) cs.length=true:=Nat.ble_eq_true_of_le (by omega);show(h.bf b 0 (n*s)).map _=_;have:h.bf b 0 (n*s)=some cs:=by
  simp only[Heap.bf,Heap.row,hg,b1,cond_true,List.drop_zero];rw[←hl,List.take_length]
 rw[this];rfl
theorem vC{h:Heap}{s bytes b m:Nat}{vs cs:List AV}{x:AV}(hg:h.get b=some (.cells vs true s))(hv:vs.length=m*s)(hsrc:eJ s h x=some (1,cs))(hf:bz cs=true)(hb:(m+1)*bytes≤140737488355328)(hm:m+1≤140737488355328):
  eV (.append s bytes) [.sl b 0 m m true,x] h=some (.sl h.next 0 (m+1) (m+1) true,(h.del b).new (.cells (vs++cs) true s)):=by
 have b1:Nat.ble (m+1) m=false:=by cases hb:Nat.ble (m+1) m with|false=>rfl|true=>(have:=Nat.le_of_ble_eq_true hb;omega)
 have b2:Nat.ble ((m+1)*bytes) 140737488355328=true:=Nat.ble_eq_true_of_le hb;have b3:Nat.ble (m+1) 9223372036854775807=true:=Nat.ble_eq_true_of_le (by omega);have b4:Nat.ble (0+m*s) vs.length=true:=Nat.ble_eq_true_of_le (by omega);have b5:Nat.beq vs.length (0+m*s)=true:=by rw[hv,Nat.zero_add];exact Nat.beq_refl _
 have Ac:h.bf b 0 (m*s)=some vs:=by
  simp only[Heap.bf,Heap.row,hg,b4,cond_true,List.drop_zero];rw[←hv,List.take_length]
 simp only[eV,l2,hsrc];show cond (bz cs) _ _=_;rw[hf,cond_true];show cond (Nat.beq 1 0&&Nat.ble m m) _ _=_;rw[show Nat.beq 1 0=false from rfl,Bool.false_and,cond_false,b1,cond_false,b2,b3,Bool.and_self,cond_true,hg,Ac];show cond true (cond (true&&Nat.beq vs.length (0+m*s)&&Nat.beq m m&&Nat.beq s s) _ _) _=_;rw[b5,Nat.beq_refl,Nat.beq_refl];rfl
theorem mQ{h:Heap}{b c:Nat}(hn:c≠b):(h.del b).get c=h.get c:=by rw[Heap.cL,if_neg hn]
end Ads
namespace Ir
structure Nt where
 a:Int
 k:Int
 p:Int
 t:Int
 n:Int
 e:Int
 s:List UInt8
 deriving DecidableEq
def nt(x:Nt):AV:=.agg [.int .i64 x.a,.int .i64 x.k,.int .i64 x.p,.int .i64 x.t,.int .i64 x.n,.int .i64 x.e,.str x.s]
def GY(l:List Nt):List AV:=l.map nt
theorem Ae(l:List Nt):(GY l).length=l.length:=List.length_map ..
theorem w8(l:List Nt):aR 7 (GY l)=true:=gO (enc:=nt) (fun _=>rfl) l
theorem Iy(l:List Nt):cw (GY l)=true:=qp (enc:=nt) (fun _=>rfl) l
theorem aax{l:List Nt}{j k:Nat}(hj:j<l.length):pV (.aG 7) [.fz k (GY l),.int .i64 (j:Nat)]=some (.fp (nt l[j]).cells 0):=vk (enc:=nt) hj rfl
def NR(lo:Nat)(h:Heap)(v:AV)(M:List Nt):Prop:=(M=[]∧v=.aH)∨∃b,lo≤b∧b<h.next∧v=.sl b 0 M.length M.length true∧h.get b=some (.cells (aa (GY M)) true 7)
theorem NR.keep{lo:Nat}{h h':Heap}{v:AV}{M:List Nt}(hr:NR lo h v M)(fr:Fr h h' []):NR lo h' v M:=by
 rcases hr with hr|⟨b,h1,h2,h3,h4⟩
 ·exact .inl hr
 ·exact .inr ⟨b,h1,Nat.lt_of_lt_of_le h2 fr.next,h3,by rw[fr.keep b h2 (by simp)];exact h4⟩
theorem NR.Xb{lo:Nat}{h:Heap}{v:AV}{M:List Nt}(hr:NR lo h v M):∃k,kY (fun _=>True) h v (.fz k (GY M)):=by
 rcases hr with⟨rfl,rfl⟩|⟨b,h1,h2,rfl,h4⟩
 ·exact⟨3,.aH⟩
 ·exact⟨0,kB trivial h4 rfl (w8 M) (Ae M).symm (Iy M)⟩
theorem NR.app{lo:Nat}{h:Heap}{v:AV}{M:List Nt}(hr:NR lo h v M)(hlo:lo≤h.next)(hl:(M.length+1)*64≤140737488355328)(x:Nt):∃v' g',eV (.append 7 64) [v,.sl h.next 0 1 1 false] (h.new (.cells (nt x).cells true 0))=some (v',g')∧
  NR lo g' v' (M++[x])∧h.next≤g'.next∧∀c,c<lo→g'.get c=h.get c:=by
 have hsrc:eJ 7 (h.new (.cells (nt x).cells true 0)) (.sl h.next 0 1 1 false)=some (1,(nt x).cells):=DZ ai rfl;have GA:aa (GY (M++[x]))=aa (GY M)++(nt x).cells:=by rw[GY,List.map_append,lY];simp[aa,GY]
 rcases hr with⟨h1,h2⟩|⟨b,h1,h2,h3,h4⟩
 ·subst h1 h2;refine⟨_,_,lD (by omega) hsrc rfl,.inr ⟨h.next+1,by omega,Nat.lt_succ_self _,rfl,?_⟩,by show h.next≤h.next+1+1;omega,fun c hc=>?_⟩
  ·exact ai (h:=h.new (.cells (nt x).cells true 0))
  ·exact(ay (h:=h.new (.cells (nt x).cells true 0)) (show c<h.next+1 by omega)).trans (ay (by omega))
 ·subst h3;have hg:(h.new (.cells (nt x).cells true 0)).get b=some (.cells (aa (GY M)) true 7):=by rw[ay h2];exact h4
  refine⟨_,_,vC hg (by rw[lG (w8 M),Ae]) hsrc rfl hl (by omega),.inr ⟨h.next+1,by omega,Nat.lt_succ_self _,by rw[List.length_append];rfl,?_⟩,by show h.next≤h.next+1+1;omega,fun c hc=>?_⟩
  ·have:=ai (h:=(h.new (.cells (nt x).cells true 0)).del b) (x:=.cells (aa (GY M)++(nt x).cells) true 7);rw[show((h.new (.cells (nt x).cells true 0)).del b).next=h.next+1 from rfl] at this;rw[this,GA]
  ·have hne:c≠b:=by omega
   exact(ay (h:=(h.new (.cells (nt x).cells true 0)).del b) (show c<h.next+1 by omega)).trans ((mQ hne).trans (ay (by omega)))
def Pg(p:Int)(l:List Nt):List Nt:=l.filter fun x=>x.p==p
theorem I0{p:Int}{l:List Nt}{j:Nat}(hj:j<l.length):Pg p (l.take (j+1))=if l[j].p=p then Pg p (l.take j)++[l[j]] else Pg p (l.take j):=by
 rw[gy hj,Pg,List.filter_append];by_cases h:l[j].p=p
 ·rw[if_pos h];simp[Pg,h]
 ·rw[if_neg h];simp[Pg,h]
theorem Zi(p:Int)(l:List Nt):(Pg p l).length≤l.length:=List.length_filter_le ..
def yQ(from_ to_:Int)(x:Nt):Bool:=decide (x.k=1)&&decide (from_≤x.a)&&decide (x.a<to_)
def Ov(p from_ to_:Int)(l:List Nt):Nat:=((Pg p l).filter (yQ from_ to_)).length
theorem Tt{p x1 x2:Int}{l:List Nt}{j:Nat}(hj:j<l.length):Ov p x1 x2 (l.take (j+1))=if(l[j].p==p&&yQ x1 x2 l[j])=true then Ov p x1 x2 (l.take j)+1 else Ov p x1 x2 (l.take j):=by
 unfold Ov;rw[I0 hj];by_cases h:l[j].p=p
 ·rw[if_pos h,List.filter_append];by_cases h2:yQ x1 x2 l[j]=true
  ·simp[h,h2]
  ·simp[h,h2]
 ·rw[if_neg h];simp[h]
end Ir
end Go.Proofs.YtnlcabhfkpafmaaGreat
namespace Go.Proofs.YtnlcabhfkpafmaaGreat
open Go Ads
namespace Ads
theorem Xa{h0 h:Heap}{bs:List Nat}(hb:∀b∈bs,h0.next≤b)(fr:Fr h0 h []):Fr h0 (dQ bs h) []:=
 ⟨by rw[eM];exact fr.next,fun c hc hn=>by rw[nV,if_neg (fun hm=>by have:=hb c hm;omega)];exact fr.keep c hc hn⟩
end Ads
namespace Ir
theorem NR.acf{lo:Nat}{h:Heap}{v:AV}{M:List Nt}(hr:NR lo h v M):∃(k:Nat) (bs:List Nat),kY (· ∈bs) h v (.fz k (GY M))∧∀b∈bs,lo≤b:=by
 rcases hr with⟨rfl,rfl⟩|⟨b,h1,h2,rfl,h4⟩
 ·exact⟨3,[],.aH,by simp⟩
 ·exact⟨0,[b],kB (by simp) h4 rfl (w8 M) (Ae M).symm (Iy M),by simpa using h1⟩
theorem NR.len{lo:Nat}{h:Heap}{v:AV}{M:List Nt}(hr:NR lo h v M):pV .bX [v]=some (.int .i64 ((M.length:Nat):Int)):=by
 rcases hr with⟨rfl,rfl⟩|⟨b,h1,h2,rfl,h4⟩
 ·rfl
 ·rfl
def M5(x1 x2:Int)(l:List Nt):Nat:=(l.filter (yQ x1 x2)).length
theorem SW{x1 x2:Int}{l:List Nt}{j:Nat}(hj:j<l.length):M5 x1 x2 (l.take (j+1))=if yQ x1 x2 l[j]=true then M5 x1 x2 (l.take j)+1 else M5 x1 x2 (l.take j):=by
 rw[gy hj];unfold M5;rw[List.filter_append];by_cases h2:yQ x1 x2 l[j]=true
 ·simp[h2]
 ·simp[h2]
end Ir
end Go.Proofs.YtnlcabhfkpafmaaGreat
namespace Go.Proofs.YtnlcabhfkpafmaaGreat
open Go Ads
namespace Ads
theorem Fr.wk{h h':Heap}{bs cs:List Nat}(f:Fr h h' bs)(hs:∀b∈bs,b∈cs):Fr h h' cs:=⟨f.next,fun c hc hn=>f.keep c hc (fun hb=>hn (hs c hb))⟩
theorem tJ{s bytes n:Nat}{h:Heap}{x:AV}{cs:List AV}(hs:eJ s h x=some (n,cs))(hf:bz cs=true)(hn:n*bytes≤140737488355328)(hm:n≤140737488355328):
  eV (.append s bytes) [.aH,x] h=some (if n=0 then(.aH,h) else(.sl h.next 0 n n true,h.new (.cells cs true s))):=by
 have b2:Nat.ble (n*bytes) 140737488355328=true:=Nat.ble_eq_true_of_le hn;have b3:Nat.ble n 9223372036854775807=true:=Nat.ble_eq_true_of_le (by omega);simp only[eV,l2,hs];show cond (bz cs) _ _=_;rw[hf,cond_true];cases n with
 |zero=>rfl
 |succ n=>
  rw[show Nat.beq (n+1) 0=false from rfl,cond_false,b2,b3,Bool.and_self,cond_true,if_neg (by omega)]
theorem Gr{x:AV}{l:List AV}:bz (x::l)=(x.flat&&bz l):=by
 show cond x.flat (bz l) false=_;cases x.flat<;>rfl
def GR(s:Nat)(lo:Nat)(h:Heap)(v:AV)(l:List AV):Prop:=(l=[]∧v=.aH)∨l≠[]∧∃b,lo≤b∧b<h.next∧v=.sl b 0 l.length l.length true∧h.get b=some (.cells (aa l) true s)
theorem GR.nil{s lo:Nat}{h:Heap}:GR s lo h .aH []:=.inl ⟨rfl,rfl⟩
theorem GR.keep{s lo:Nat}{h h':Heap}{v:AV}{M:List AV}{T:List Nat}(hr:GR s lo h v M)(fr:Fr h h' T)(hT:∀c∈T,c<lo):GR s lo h' v M:=by
 rcases hr with hr|⟨Dm,b,h1,h2,h3,h4⟩
 ·exact .inl hr
 ·exact .inr ⟨Dm,b,h1,Nat.lt_of_lt_of_le h2 fr.next,h3,by rw[fr.keep b h2 (fun hm=>by have:=hT b hm;omega)];exact h4⟩
theorem GR.low{s lo lo':Nat}{h:Heap}{v:AV}{M:List AV}(hr:GR s lo h v M)(hl:lo'≤lo):GR s lo' h v M:=by
 rcases hr with hr|⟨Dm,b,h1,h2⟩
 ·exact .inl hr
 ·exact .inr ⟨Dm,b,Nat.le_trans hl h1,h2⟩
theorem GR.Xb{s lo:Nat}{h:Heap}{v:AV}{M:List AV}(hr:GR s lo h v M)(hs:aR s M=true)(hc:cw M=true):∃bs:List Nat,kY (· ∈bs) h v (.fz (pG M.length) M)∧∀b∈bs,lo≤b:=by
 rcases hr with⟨rfl,rfl⟩|⟨Dm,b,h1,h2,rfl,h4⟩
 ·exact⟨[],.aH,by simp⟩
 ·cases M with
  |nil=>exact absurd rfl Dm
  |cons m M=>exact⟨[b],kB (by simp) h4 rfl hs rfl hc,by simpa using h1⟩
theorem GR.len{s lo:Nat}{h:Heap}{v:AV}{M:List AV}(hr:GR s lo h v M):pV .bX [v]=some (.int .i64 ((M.length:Nat):Int)):=by
 rcases hr with⟨rfl,rfl⟩|⟨Dm,b,h1,h2,rfl,h4⟩
 ·rfl
 ·rfl
theorem GR.app{s bytes lo:Nat}{h:Heap}{v:AV}{M:List AV}(hr:GR s lo h v M)(hlo:lo≤h.next){x:AV}(hx:x.cells.length=s)(hf:bz x.cells=true)(hs:aR s M=true)(hl:(M.length+1)*bytes≤140737488355328)(hm:M.length+1≤140737488355328):
  ∃v' g',eV (.append s bytes) [v,.sl h.next 0 1 1 false] (h.new (.cells x.cells true 0))=some (v',g')∧GR s lo g' v' (M++[x])∧h.next≤g'.next∧∀c,c<lo→g'.get c=h.get c:=by
 have hsrc:eJ s (h.new (.cells x.cells true 0)) (.sl h.next 0 1 1 false)=some (1,x.cells):=DZ ai (by omega);have GA:aa (M++[x])=aa M++x.cells:=by rw[lY];simp[aa]
 rcases hr with⟨h1,h2⟩|⟨Dm,b,h1,h2,h3,h4⟩
 ·subst h1 h2;have:=tJ (bytes:=bytes) hsrc hf (by simpa using hl) (by omega);rw[if_neg (by omega)] at this;refine⟨_,_,this,.inr ⟨by simp,h.next+1,by omega,Nat.lt_succ_self _,rfl,?_⟩,by show h.next≤h.next+1+1;omega,fun c hc=>?_⟩
  ·rw[GA];exact ai (h:=h.new (.cells x.cells true 0))
  ·exact(ay (h:=h.new (.cells x.cells true 0)) (show c<h.next+1 by omega)).trans (ay (by omega))
 ·subst h3;have hg:(h.new (.cells x.cells true 0)).get b=some (.cells (aa M) true s):=by rw[ay h2];exact h4
  refine⟨_,_,vC hg (lG hs) hsrc hf hl hm,.inr ⟨by simp,h.next+1,by omega,Nat.lt_succ_self _,by rw[List.length_append];rfl,?_⟩,by show h.next≤h.next+1+1;omega,fun c hc=>?_⟩
  ·have:=ai (h:=(h.new (.cells x.cells true 0)).del b) (x:=.cells (aa M++x.cells) true s);rw[show((h.new (.cells x.cells true 0)).del b).next=h.next+1 from rfl] at this;rw[this,GA]
  ·have hne:c≠b:=by omega
   exact(ay (h:=(h.new (.cells x.cells true 0)).del b) (show c<h.next+1 by omega)).trans ((mQ hne).trans (ay (by omega)))
theorem GR.copy{s bytes lo k:Nat}{h:Heap}{M:List AV}(hlo:lo≤h.next)(hs:aR s M=true)(hf:bz (aa M)=true)(hl:M.length*bytes≤140737488355328)(hm:M.length≤140737488355328):
  ∃v' g',eV (.append s bytes) [.aH,.fz k M] h=some (v',g')∧GR s lo g' v' M∧Fr h g' []:=by
 have:=tJ (bytes:=bytes) (xh (k:=k) (h:=h) hs) hf hl hm;by_cases hz:M.length=0
 ·rw[if_pos hz] at this;exact⟨_,_,this,.inl ⟨List.eq_nil_of_length_eq_zero hz,rfl⟩,Fr.refl _ _⟩
 ·rw[if_neg hz] at this;exact⟨_,_,this,.inr ⟨fun h=>hz (by rw[h];rfl),h.next,hlo,Nat.lt_succ_self _,rfl,ai⟩,(Fr.refl _ _).new⟩
end Ads
end Go.Proofs.YtnlcabhfkpafmaaGreat
namespace Go.Proofs.YtnlcabhfkpafmaaGreat
open Go Ads
namespace Ads
def u0{α:Type}(f:Nat→α)(r:Nat)(x:α):Nat→α:=fun s=>if s=r then x else f s
theorem ju{α:Type}{f:Nat→α}{r:Nat}{x:α}:u0 f r x r=x:=if_pos rfl
theorem fe{α:Type}{f:Nat→α}{r s:Nat}{x:α}(h:s≠r):u0 f r x s=f s:=if_neg h
structure At(h:Heap)(B:Nat→Nat)(G:Nat→Option ck):Prop where
 get:∀r x,G r=some x→h.get (B r)=some x∧B r<h.next
 inj:∀r s x y,G r=some x→G s=some y→B r=B s→r=s
def own(B:Nat→Nat)(G:Nat→Option ck)(c:Nat):Prop:=∃r x,G r=some x∧B r=c
structure Cx(h h':Heap)(P:Nat→Prop):Prop where
 next:h.next≤h'.next
 keep:∀c,c<h.next→¬P c→h'.get c=h.get c
theorem Cx.refl(h:Heap)(P:Nat→Prop):Cx h h P:=⟨Nat.le_refl _,fun _ _ _=>rfl⟩
theorem Cx.trans{h h1 h2:Heap}{P P':Nat→Prop}(a:Cx h h1 P)(b:Cx h1 h2 P')(hp:∀c,P' c→P c∨h.next≤c):Cx h h2 P:=
 ⟨Nat.le_trans a.next b.next,fun c hc hn=>(b.keep c (Nat.lt_of_lt_of_le hc a.next) (fun h=>(hp c h).elim hn (fun h'=>by omega))).trans (a.keep c hc hn)⟩
theorem Cx.of{h h':Heap}{T:List Nat}{P:Nat→Prop}(f:Fr h h' T)(hT:∀b∈T,P b):Cx h h' P:=⟨f.next,fun c hc hn=>f.keep c hc (fun hm=>hn (hT c hm))⟩
theorem Cx.wk{h h':Heap}{P P':Nat→Prop}(f:Cx h h' P)(hp:∀c,P c→P' c):Cx h h' P':=⟨f.next,fun c hc hn=>f.keep c hc (fun hm=>hn (hp c hm))⟩
section
variable {h h':Heap} {B:Nat→Nat} {G:Nat→Option ck} {r:Nat}
theorem At.PI{P:Nat→Prop}(a:At h B G)(fr:Cx h h' P)(hP:∀c,own B G c→¬P c):At h' B G:=by
 refine⟨fun r x hr=>?_,a.inj⟩;obtain⟨h1,h2⟩:=a.get r x hr;exact⟨(fr.keep _ h2 (hP _ ⟨r,x,hr,rfl⟩)).trans h1,Nat.lt_of_lt_of_le h2 fr.next⟩
theorem At.keep(a:At h B G)(fr:Fr h h' []):At h' B G:=a.PI (Cx.of (P:=fun _=>False) fr (by simp)) (fun _ _ h=>h)
theorem At.ld{o:Nat}{vs:List AV}{wr:Bool}{es:Nat}{v:AV}(a:At h B G)(hr:G r=some (.cells vs wr es))(hv:vs[o]?=some v):rV .bY [.ptr (B r) o] h=some v:=bU (a.get r _ hr).1 hv
theorem At.xA{o n:Nat}{vs:List AV}{wr:Bool}{es:Nat}(a:At h B G)(hr:G r=some (.cells vs wr es))(hl:o+n≤vs.length):rV (.bf n) [.ptr (B r) o] h=some (.agg ((vs.drop o).take n)):=Ads.xA (a.get r _ hr).1 hl
theorem At.set{x y:ck}(a:At h B G)(hr:G r=some y):At (h.set (B r) x) B (u0 G r (some x)):=by
 refine⟨fun s z hs=>?_,fun s t z w hs ht he=>?_⟩
 ·by_cases e:s=r
  ·subst e;rw[ju] at hs;cases hs
   exact⟨aC,(a.get s y hr).2⟩
  ·rw[fe e] at hs;obtain⟨h1,h2⟩:=a.get s z hs;exact⟨by rw[aQ (fun he=>e (a.inj s r z y hs hr he))];exact h1,h2⟩
 ·have k:∀s z,u0 G r (some x) s=some z→∃z',G s=some z':=fun s z hs=>by
   by_cases e:s=r
   ·subst e;exact⟨y,hr⟩
   ·rw[fe e] at hs;exact⟨z,hs⟩
  obtain⟨z',k1⟩:=k s z hs;obtain⟨w',k2⟩:=k t w ht;exact a.inj s t z' w' k1 k2 he
theorem At.put{o n es:Nat}{vs:List AV}{v:AV}(a:At h B G)(hr:G r=some (.cells vs true es))(hn:v.cells.length=n)(hl:o+n≤vs.length)(hf:bz v.cells=true):
  ∃h',eV (.store n) [.ptr (B r) o,v] h=some (.undef,h')∧At h' B (u0 G r (some (.cells (Heap.splice vs o v.cells) true es)))∧Fr h h' [B r]:=
 ⟨_,cj (a.get r _ hr).1 hn hl hf,a.set hr,(Fr.refl h [B r]).set (by simp)⟩
theorem At.new{x:ck}(a:At h B G)(hr:G r=none):At (h.new x) (u0 B r h.next) (u0 G r (some x)):=by
 refine⟨fun s z hs=>?_,fun s t z w hs ht he=>?_⟩
 ·by_cases e:s=r
  ·subst e;rw[ju] at hs⊢;cases hs
   exact⟨ai,Nat.lt_succ_self _⟩
  ·rw[fe e] at hs;rw[fe e];obtain⟨h1,h2⟩:=a.get s z hs;exact⟨by rw[ay h2];exact h1,Nat.lt_succ_of_lt h2⟩
 ·by_cases e1:s=r<;>by_cases e2:t=r
  ·rw[e1,e2]
  ·subst e1;rw[fe e2] at ht;rw[ju,fe e2] at he;have:=(a.get t w ht).2;omega
  ·subst e2;rw[fe e1] at hs;rw[ju,fe e1] at he;have:=(a.get s z hs).2;omega
  ·rw[fe e1] at hs;rw[fe e2] at ht;rw[fe e1,fe e2] at he;exact a.inj s t z w hs ht he
theorem At.drop(a:At h B G):At h B (u0 G r none):=by
 have k:∀s z,u0 G r none s=some z→G s=some z:=fun s z hs=>by
  by_cases e:s=r
  ·subst e;rw[ju] at hs;simp at hs
  ·rwa [fe e] at hs
 exact⟨fun s z hs=>a.get s z (k s z hs),fun s t z w hs ht he=>a.inj s t z w (k s z hs) (k t w ht) he⟩
theorem At.congr{G':Nat→Option ck}{B':Nat→Nat}(a:At h B G)(hG:∀r x,G' r=some x→G r=some x∧B' r=B r):At h B' G':=by
 refine⟨fun s z hs=>?_,fun s t z w hs ht he=>?_⟩
 ·obtain⟨h1,h2⟩:=hG s z hs;rw[h2];exact a.get s z h1
 ·obtain⟨h1,h2⟩:=hG s z hs;obtain⟨h3,h4⟩:=hG t w ht;rw[h2,h4] at he;exact a.inj s t z w h1 h3 he
theorem At.both{B2:Nat→Nat}{G2:Nat→Option ck}(a:At h B G)(fr:Cx h h' (own B2 G2))(hd:∀c,own B G c→¬own B2 G2 c):At h' B G:=a.PI fr hd
theorem uj(a:At h B G){c:Nat}(ho:own B G c):c<h.next:=by
 obtain⟨r,x,h1,rfl⟩:=ho;exact(a.get r x h1).2
end
def OE(b:Nat)(l:List AV):AV:=match l with
 |[]=>.aH
 |_::_=>.sl b 0 l.length l.length true
def OD(s:Nat)(l:List AV):Option ck:=match l with
 |[]=>none
 |_::_=>some (.cells (aa l) true s)
theorem XD{h:Heap}{B:Nat→Nat}{G:Nat→Option ck}{r s:Nat}{l:List AV}(a:At h B G)(hr:G r=OD s l):GR s 0 h (OE (B r) l) l:=by
 cases l with
 |nil=>exact .inl ⟨rfl,rfl⟩
 |cons x l=>
  obtain⟨h1,h2⟩:=a.get r _ hr;exact .inr ⟨by simp,B r,Nat.zero_le _,h2,rfl,h1⟩
theorem At.app{h:Heap}{B:Nat→Nat}{G:Nat→Option ck}{r s bytes:Nat}{l:List AV}{x:AV}(a:At h B G)(hr:G r=OD s l)(hx:x.cells.length=s)(hf:bz x.cells=true)(hs:aR s l=true)(hl:(l.length+1)*bytes≤140737488355328)(hm:l.length+1≤140737488355328):
  ∃g' b',eV (.append s bytes) [OE (B r) l,.sl h.next 0 1 1 false] (h.new (.cells x.cells true 0))=some (OE b' (l++[x]),g')∧At g' (u0 B r b') (u0 G r (OD s (l++[x])))∧Cx h g' (own B G)∧h.next≤b':=by
 have hsrc:eJ s (h.new (.cells x.cells true 0)) (.sl h.next 0 1 1 false)=some (1,x.cells):=DZ ai (by omega);have GA:aa (l++[x])=aa l++x.cells:=by rw[lY];simp[aa]
 have a1:=a.keep ((Fr.refl h []).new (x:=.cells x.cells true 0));cases l with
 |nil=>
  have:=tJ (bytes:=bytes) hsrc hf (by simpa using hl) (by omega);rw[if_neg (by omega)] at this;refine⟨_,h.next+1,this,?_,Cx.of ((Fr.refl h []).new.new) (by simp),by omega⟩;have:=a1.new (r:=r) (x:=.cells x.cells true s) hr;rw[show(h.new (.cells x.cells true 0)).next=h.next+1 from rfl] at this;have e:OD s ([]++[x])=some (.cells x.cells true s):=by
   show some (ck.cells (x.cells++[]) true s)=_;rw[List.append_nil]
  rw[e];exact this
 |cons y l=>
  have hg:=(a1.get r _ hr).1;have z6:=vC (bytes:=bytes) hg (lG hs) hsrc hf hl hm;have ND:At ((h.new (.cells x.cells true 0)).del (B r)) B (u0 G r none):=by
   have a2:=a1.drop (r:=r);refine⟨fun t z ht=>?_,a2.inj⟩;obtain⟨h1,h2⟩:=a2.get t z ht;have hne:B t≠B r:=fun he=>by
    by_cases e:t=r
    ·subst e;rw[ju] at ht;simp at ht
    ·rw[fe e] at ht;exact e (a1.inj t r z _ ht hr he)
   exact⟨by rw[mQ hne];exact h1,h2⟩
  have e:OE (h.next+1) (y::l++[x])=.sl (h.next+1) 0 ((y::l).length+1) ((y::l).length+1) true:=by
   show AV.sl (h.next+1) 0 (y::l++[x]).length (y::l++[x]).length true=_;rw[List.length_append];rfl
  refine⟨_,h.next+1,by rw[e];exact z6,?_,⟨?_,?_⟩,by omega⟩
  ·have h3:=ND.new (r:=r) (x:=.cells (aa (y::l)++x.cells) true s) ju;rw[show((h.new (.cells x.cells true 0)).del (B r)).next=h.next+1 from rfl] at h3;refine h3.congr fun t z ht=>⟨?_,rfl⟩;by_cases e:t=r
   ·subst e;rw[ju] at ht⊢;rw[←GA];exact ht
   ·rw[fe e] at ht⊢;rw[fe e];exact ht
  ·show h.next≤h.next+1+1;omega
  ·intro c hc hn;have hne:c≠B r:=fun he=>hn ⟨r,_,hr,he.symm⟩;exact(ay (h:=(h.new (.cells x.cells true 0)).del (B r)) (show c<h.next+1 by omega)).trans ((mQ hne).trans (ay hc))
end Ads
end Go.Proofs.YtnlcabhfkpafmaaGreat
