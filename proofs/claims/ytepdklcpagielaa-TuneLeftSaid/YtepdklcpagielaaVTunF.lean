/-
  Tune: what servers share.
-/
import Derived.Test.YtepdklcpagielaaVLocC
import Derived.Test.YtepdklcpagielaaZA
set_option maxRecDepth 100000
set_option linter.unusedSimpArgs false
set_option linter.unusedVariables false
namespace Go.Proofs.Ytepdklcpagielaa
open Go Ads
namespace Ir
def kL(a b t d:Int):Int:=a*d+t*b
def gS(a b t d:Int):Int:=(Nat.gcd (kL a b t d).toNat (b*d).toNat:Nat)
def xm(p:Int×Int)(t d:Int):Int×Int:=(kL p.1 p.2 t d/gS p.1 p.2 t d,p.2*d/gS p.1 p.2 t d)
theorem gX{a b A B:Int}(ha:0≤a)(hb:0≤b)(hA:a≤A)(hB:b≤B):0≤a*b∧a*b≤A*B:=
 ⟨Int.mul_nonneg ha hb,Int.mul_le_mul hA hB hb (by omega)⟩
theorem vz{a b:Int}(ha:1≤a)(hb:1≤b):1≤a*b:=by
 have:=Int.mul_pos (show 0<a by omega) (show 0<b by omega);omega
theorem Ty(a b t d:Int)(ha:0≤a∧a≤67108864)(hb:1≤b∧b≤262144)(ht:1≤t∧t≤64)(hd:1≤d∧d≤64):
  PC fs ms 97 [.agg [.int .i64 a,.int .i64 b],.agg [.int .i64 t,.int .i64 d]] (.agg [.int .i64 (xm (a,b) t d).1,.int .i64 (xm (a,b) t d).2]):=by
 refine aX rfl rfl ?_;refine aC (af:=YC) false rfl (Nat.le_of_ble_eq_true rfl) ?_;generalize hQ:(fun(v:AV) (_:Heap)=>v=.agg [.int .i64 (xm (a,b) t d).1,.int .i64 (xm (a,b) t d).2])=Q;have m1:=gX ha.1 (show 0≤d by omega) ha.2 hd.2;have m2:=gX (show 0≤t by omega) (show 0≤b by omega) ht.2 hb.2;have m3:=gX (show 0≤b by omega) (show 0≤d by omega) hb.2 hd.2;have m4:=vz hb.1 hd.1;have w1:IntKind.i64.wrap (a*d)=a*d:=IntWalk.i64_in _ (by omega);have w2:IntKind.i64.wrap (t*b)=t*b:=IntWalk.i64_in _ (by omega);have w3:IntKind.i64.wrap (b*d)=b*d:=IntWalk.i64_in _ (by omega);have w4:IntKind.i64.wrap (a*d+t*b)=kL a b t d:=IntWalk.i64_in _ (by omega);have hT:0≤kL a b t d∧kL a b t d≤1099511627776:=by unfold kL;omega
 have hg:rD (kL a b t d) (b*d)=(gS a b t d,0):=by
  unfold rD;rw[(cL _).2 hT,(cL _).2 ⟨by omega,by omega⟩];rfl
 have Sw:1≤gS a b t d:=by
  have:0<Nat.gcd (kL a b t d).toNat (b*d).toNat:=Nat.gcd_pos_of_pos_right _ (by omega);unfold gS;omega
 have hF:xm (a,b) t d=(kL a b t d/gS a b t d,b*d/gS a b t d):=rfl;have hc:=QN (kL a b t d) (b*d);rw[hg] at hc;conv=>whnf
 rw[w1,w2,w3,w4];refine au (v:=.cQ [.int .i64 (gS a b t d),.int .i64 0]) hc ?_;conv=>whnf
 refine⟨_,jU _ _ (by omega),?_⟩;conv=>whnf
 refine⟨_,jU _ _ (by omega),?_⟩;conv=>whnf
 subst hQ;rw[hF,Int.tdiv_eq_ediv_of_nonneg hT.1,Int.tdiv_eq_ediv_of_nonneg m3.1];have e1:=Int.ediv_nonneg hT.1 (show 0≤gS a b t d by omega);have e2:=Int.ediv_le_self (gS a b t d) hT.1;have e3:=Int.ediv_nonneg m3.1 (show 0≤gS a b t d by omega);have e4:=Int.ediv_le_self (gS a b t d) m3.1;rw[IntWalk.i64_in _ (by omega),IntWalk.i64_in _ (by omega)];rfl
def Ip:Nat→Int
 |0=>1
 |j+1=>Ip j*64
def Kr:Nat→Int
 |0=>0
 |j+1=>Kr j*64+64*Ip j
theorem Kt{j:Nat}(h:j≤3):Kr j≤67108864∧Ip j≤262144:=by
 rcases j with _|_|_|_|j
 ·decide
 ·decide
 ·decide
 ·decide
 ·omega
def oE(x:Pt):Bool:=decide (x.cJ≤64)&&decide (1≤x.cn)&&decide (x.cn≤x.cJ)
theorem ki(x:Pt):oE x=true↔x.cJ≤64∧1≤x.cn∧x.cn≤x.cJ:=by simp[oE,and_assoc]
theorem qz{x:Pt}(h:¬(x.cJ≤64∧1≤x.cn∧x.cn≤x.cJ)):oE x=false:=by rw[←Bool.not_eq_true,ki];exact h
def cZ(L:List Pt)(j:Nat):Bool:=match L[j]? with
 |some x=>!oE x
 |none=>false
theorem mj{L:List Pt}{j:Nat}(h:j<L.length):cZ L j=!oE L[j]:=by rw[cZ,List.getElem?_eq_getElem h]
def gA(L:List Pt):Nat→Int×Int
 |0=>(0,1)
 |j+1=>match L[j]? with
  |some x=>xm (gA L j) x.cn x.cJ
  |none=>gA L j
theorem vO{L:List Pt}{j:Nat}(h:j<L.length):gA L (j+1)=xm (gA L j) L[j].cn L[j].cJ:=by rw[gA,List.getElem?_eq_getElem h]
def AR(p:Int×Int)(j:Nat):Prop:=0≤p.1∧p.1≤Kr j∧1≤p.2∧p.2≤Ip j
theorem OB:∀j,1≤Ip j
 |0=>by decide
 |j+1=>by have:=OB j;simp only[Ip];omega
theorem Kg{p:Int×Int}{j:Nat}{t d:Int}(h:AR p j)(ht:1≤t∧t≤64)(hd:1≤d∧d≤64):AR (xm p t d) (j+1):=by
 obtain⟨a,b⟩:=p;obtain⟨h1,h2,h3,h4⟩:=h;simp only at h1 h2 h3 h4;have m1:=gX h1 (show 0≤d by omega) h2 hd.2;have m2:=gX (show 0≤t by omega) (show 0≤b by omega) ht.2 h4;have m3:=gX (show 0≤b by omega) (show 0≤d by omega) h4 hd.2;have m4:=vz h3 hd.1;have hT:0≤kL a b t d∧kL a b t d≤Kr (j+1):=by unfold kL;simp only[Kr];omega
 have Sw:0<Nat.gcd (kL a b t d).toNat (b*d).toNat:=Nat.gcd_pos_of_pos_right _ (by omega);have hgl:Nat.gcd (kL a b t d).toNat (b*d).toNat≤(b*d).toNat:=Nat.gcd_le_right _ (by omega);have hg:gS a b t d=(Nat.gcd (kL a b t d).toNat (b*d).toNat:Nat):=rfl;have hg1:1≤gS a b t d:=by omega
 have e2:=Int.ediv_le_self (gS a b t d) hT.1;have e4:=Int.ediv_le_self (gS a b t d) m3.1;refine⟨Int.ediv_nonneg hT.1 (show 0≤gS a b t d by omega),by show kL a b t d/gS a b t d≤_;omega,?_,by show b*d/gS a b t d≤_;simp only[Ip];omega⟩;show 1≤b*d/gS a b t d;have:=Int.le_ediv_of_mul_le (a:=1) (b:=b*d) (c:=gS a b t d) (by omega) (by omega);exact this
theorem Cc{L:List Pt}:∀j,j≤L.length→(∀i,i<j→cZ L i=false)→AR (gA L j) j
 |0,_,_=>by simp[AR,gA,Kr,Ip]
 |j+1,h,hb=>by
  have hj:=hb j (by omega);rw[mj (by omega),Bool.not_eq_false',ki] at hj;rw[vO (by omega)];exact Kg (Cc j (by omega) fun i hi=>hb i (by omega)) ⟨by omega,by omega⟩ ⟨by omega,by omega⟩
def nU(L:List Pt):(Int×Int)×Bool:=if 4<L.length then((0,1),false) else match eA (cZ L) 0 L.length with
 |none=>(gA L L.length,true)
 |some u=>(gA L u,false)
def R8(p:Int×Int):AV:=.agg [.int .i64 p.1,.int .i64 p.2]
def M0(k:Nat)(L:List Pt)(j:Nat):List (Nat×AV):=[(2,.ptr 0 0),(4,.ptr 1 0),(12,.fz k (pts L)),(13,.int .i64 (L.length:Nat)),(14,.int .i64 ((j:Nat):Int))]
def M1(p:Int×Int):Heap:=H3 (some (.cells [.int .i64 0,.int .i64 0] true 0)) (some (.cells [.int .i64 p.1,.int .i64 p.2] true 0)) none
theorem HP{k j:Nat}{L:List Pt}{e1:Env}{h1:Heap}{q:Int×Int}(e2:Tr.get e1 2=some (.ptr 0 0))(e4:Tr.get e1 4=some (.ptr 1 0))(e12:Tr.get e1 12=some (.fz k (pts L)))(e13:Tr.get e1 13=some (.int .i64 (L.length:Nat)))
  (e14:Tr.get e1 14=some (.int .i64 ((j:Nat):Int)))(g0:h1.get 0=some (.cells [.int .i64 0,.int .i64 0] true 0))(g1:h1.get 1=some (.cells [.int .i64 q.1,.int .i64 q.2] true 0)):GC 0 id e1 h1 (ek 5 (M0 k L j)) (M1 q):=
 Uk id ⟨⟨_,e2,.ptr (by omega)⟩,⟨_,e4,.ptr (by omega)⟩,⟨_,e12,.cl (by simp[AV.cl,bz])⟩,⟨_,e13,.cl rfl⟩,⟨_,e14,.cl rfl⟩,trivial⟩ (sX ⟨_,g0,ep rfl rfl⟩) (sX ⟨_,g1,ep rfl rfl⟩) jt (by decide) (by decide) (by decide) (by intro b hb;omega) (by omega)
theorem GF(k:Nat)(L:List Pt)(hs:Small L):PC fs ms 76 [.fz k (pts L)] (.cQ [R8 (nU L).1,.bool (nU L).2]):=by
 refine aX (by simp[bL,AV.cl,bz]) rfl ?_;refine aC (af:=Ug) false rfl (Nat.le_of_ble_eq_true rfl) ?_;generalize hQ:(fun(v:AV) (_:Heap)=>v=.cQ [R8 (nU L).1,.bool (nU L).2])=Q;conv=>whnf
 rw[bh];by_cases h4:4<L.length
 ·refine kO (by simp;omega) (fun hc=>?_)
  (try rw[hc])
  conv=>whnf
  subst hQ;rw[nU,if_pos h4];rfl
 refine lY (by simp;omega) (fun hc=>?_)
 (try rw[hc])
 conv=>whnf
 have hS:nU L=match eA (cZ L) 0 L.length with|none=>(gA L L.length,true)|some u=>(gA L u,false):=by rw[nU,if_neg h4]
 have hbody:∀(K:AX→Env→Heap→Prop) j,j<L.length→(∀i,i<j→cZ L i=false)→(cZ L j=false→∀e1 h1,GC 0 id e1 h1 (ek 5 (M0 k L (j+1))) (M1 (gA L (j+1)))→K .normal e1 h1)→(cZ L j=true→∀e1 h1,er e1 h1 Ug.results=some [R8 (gA L j),.bool false]→K .ret e1 h1)→
   tJ fs ms 0 false false tK (ek 5 (M0 k L j)) (M1 (gA L j)) K:=by
  intro K j hj hno k1 k2;have hin:=Cc j (by omega) hno;have YV:=mj hj;have ir:=vO hj;have rG:=gH (k:=k) hj;have hbd:=Kt (j:=j) (by omega);generalize gA L j=q at*;generalize gA L (j+1)=q' at*;generalize L[j]=x at*;obtain⟨qa,qb⟩:=q;show tJ fs ms 0 false false _ (ek 5 [(2,.ptr 0 0),(4,.ptr 1 0),(12,.fz k (pts L)),(13,.int .i64 (L.length:Nat)),(14,.int .i64 ((j:Nat):Int))]) ⟨3,.node (.node .nil (some (.cells [.int .i64 qa,.int .i64 qb] true 0)) .nil) (some (.cells [.int .i64 0,.int .i64 0] true 0)) (.node .nil none .nil)⟩ _;conv=>whnf
  refine kO (by simp;omega) (fun hc=>?_)
  (try rw[hc])
  conv=>whnf
  refine⟨_,rG,?_⟩;conv=>whnf
  by_cases c1:64<x.cJ
  ·refine kO (by simpa using c1) (fun hc=>?_)
   (try rw[hc])
   conv=>whnf
   refine k2 (by rw[YV,qz (by omega)];rfl) _ _ rfl
  refine lY (by simpa using c1) (fun hc=>?_)
  (try rw[hc])
  conv=>whnf
  by_cases c2:x.cn<1
  ·refine kO (by simpa using c2) (fun hc=>?_)
   (try rw[hc])
   conv=>whnf
   refine k2 (by rw[YV,qz (by omega)];rfl) _ _ rfl
  refine lY (by simpa using c2) (fun hc=>?_)
  (try rw[hc])
  conv=>whnf
  by_cases c3:x.cJ<x.cn
  ·refine kO (by simpa using c3) (fun hc=>?_)
   (try rw[hc])
   conv=>whnf
   refine k2 (by rw[YV,qz (by omega)];rfl) _ _ rfl
  refine lY (by simpa using c3) (fun hc=>?_)
  (try rw[hc])
  conv=>whnf
  obtain⟨i1,i2,i3,i4⟩:=hin;simp only at i1 i2 i3 i4;refine au (Ty qa qb x.cn x.cJ (by omega) (by omega) (by omega) (by omega)) ?_;conv=>whnf
  refine k1 (by rw[YV,(ki x).2 (by omega)];rfl) _ _ (HP rfl rfl rfl rfl (ay (by omega)) rfl ?_);rw[ir];rfl
 refine z7 (HP (q:=gA L 0) (j:=0) rfl rfl rfl ((show _=some (AV.int .i64 ((pts L).length:Nat)) from rfl).trans (by rw[bh])) rfl rfl rfl) ?_;cases wz:eA (cZ L) 0 L.length with
 |none=>
  rw[wz] at hS;have hno:∀j,j<L.length→cZ L j=false:=fun j hj=>by have:=jK wz j hj;rwa [Nat.zero_add] at this
  refine DW 0 5 L.length (fun _=>True) (M0 k L) (fun j=>M1 (gA L j)) (fun j hj _=>hbody _ j hj (fun i hi=>hno i (by omega)) (fun _ e1 h1 hg=>⟨trivial,id,hg⟩) (fun he=>by rw[hno j hj] at he;cases he)) (fun _=>?_) trivial;refine lU (z:=false) ?_;show tJ fs ms 0 false false _ (ek 5 [(2,.ptr 0 0),(4,.ptr 1 0),(12,.fz k (pts L)),(13,.int .i64 (L.length:Nat)),(14,.int .i64 ((L.length:Nat):Int))]) ⟨3,.node (.node .nil (some (.cells [.int .i64 (gA L L.length).1,.int .i64 (gA L L.length).2] true 0)) .nil) (some (.cells [.int .i64 0,.int .i64 0] true 0)) (.node .nil none .nil)⟩ _;generalize gA L L.length=q at*;obtain⟨qa,qb⟩:=q;conv=>whnf
  refine lY (by simp) (fun hc=>?_)
  (try rw[hc])
  conv=>whnf
  subst hQ;rw[hS];rfl
 |some u=>
  rw[wz] at hS;obtain⟨u1,u2,u3,u4⟩:=lP wz;refine DW 0 5 u (fun _=>True) (M0 k L) (fun j=>M1 (gA L j)) (fun j hj _=>hbody _ j (by omega) (fun i hi=>u4 i (by omega) (by omega)) (fun _ e1 h1 hg=>⟨trivial,id,hg⟩) (fun he=>by rw[u4 j (by omega) (by omega)] at he;cases he)) (fun _=>?_) trivial;refine lU (z:=false) (hbody _ u (by omega) (fun i hi=>u4 i (by omega) (by omega)) (fun he=>by rw[u3] at he;cases he) (fun _ e1 h1 hr=>?_));show vX Ug.results Q .ret e1 h1;subst hQ;simp only[vX,hr];rw[hS]
theorem HW{L:List Pt}(h:(nU L).2=true):0≤(nU L).1.1∧(nU L).1.1≤67108864∧1≤(nU L).1.2∧(nU L).1.2≤16777216:=by
 unfold nU at h⊢;split at h
 ·simp at h
 ·rename_i h4;rw[if_neg h4];cases wz:eA (cZ L) 0 L.length with
  |some u=>rw[wz] at h;simp at h
  |none=>
   have hin:=Cc (L:=L) L.length (Nat.le_refl _) (fun i hi=>by have:=jK wz i hi;rwa [Nat.zero_add] at this);have hb:Kr L.length≤67108864∧Ip L.length≤16777216:=by
    generalize L.length=n at h4;rcases n with _|_|_|_|_|n
    ·decide
    ·decide
    ·decide
    ·decide
    ·decide
    ·omega
   obtain⟨h1,h2,h3,h5⟩:=hin;show 0≤(gA L L.length).1∧(gA L L.length).1≤_∧1≤(gA L L.length).2∧(gA L L.length).2≤_;omega
def kV(L:List Pt):Int×Int×Int:=if(nU L).2=true then((nU L).1.1,(nU L).1.2,0) else(0,0,2)
def nW(p:Int×Int×Int):AV:=.cQ [.int .i64 p.1,.int .i64 p.2.1,.int .i64 p.2.2]
theorem EO(k:Nat)(L:List Pt)(hs:Small L):PC fs ms 50 [.fz k (pts L)] (nW (kV L)):=by
 refine aX (by simp[bL,AV.cl,bz]) rfl ?_;refine aC (af:=XR) false rfl (Nat.le_of_ble_eq_true rfl) ?_;generalize hQ:(fun(v:AV) (_:Heap)=>v=nW (kV L))=Q;have hc:=GF k L hs;unfold kV at hQ;generalize nU L=q at*;obtain⟨⟨qa,qb⟩,o⟩:=q;conv=>whnf
 refine au (v:=.cQ [.agg [.int .i64 qa,.int .i64 qb],.bool o]) hc ?_;conv=>whnf
 cases o with
 |false=>
  conv=>whnf
  subst hQ;rfl
 |true=>
  conv=>whnf
  subst hQ;rfl
def ym(L:List Pt):Int×Int×Int:=match kV L with
 |(a,b,e)=>if e≠0 then(0,0,e) else if b<a then(0,0,120) else if a=b then(0,1,0) else(b-a,b,0)
theorem Gd(k:Nat)(L:List Pt)(hs:Small L):PC fs ms 29 [.fz k (pts L)] (nW (ym L)):=by
 refine aX (by simp[bL,AV.cl,bz]) rfl ?_;refine aC (af:=XI) false rfl (Nat.le_of_ble_eq_true rfl) ?_;generalize hQ:(fun(v:AV) (_:Heap)=>v=nW (ym L))=Q;have hc:=EO k L hs;have hin:kV L=(0,0,2)∨(0≤(kV L).1∧(kV L).1≤67108864∧1≤(kV L).2.1∧(kV L).2.1≤16777216∧(kV L).2.2=0):=by
  unfold kV;by_cases h:(nU L).2=true
  ·rw[if_pos h];have:=HW h;exact .inr ⟨this.1,this.2.1,this.2.2.1,this.2.2.2,rfl⟩
  ·rw[if_neg h];exact .inl rfl
 unfold ym at hQ;generalize kV L=q at*;obtain⟨a,b,e⟩:=q;conv=>whnf
 refine au (v:=.cQ [.int .i64 a,.int .i64 b,.int .i64 e]) hc ?_;conv=>whnf
 simp only[Prod.mk.injEq] at hin;rcases hin with⟨rfl,rfl,rfl⟩|⟨h1,h2,h3,h4,rfl⟩
 ·conv=>whnf
  subst hQ;rfl
 ·conv=>whnf
  by_cases c1:b<a
  ·refine kO (by simpa using c1) (fun hc=>?_)
   (try rw[hc])
   conv=>whnf
   subst hQ;show _=nW (if(0:Int)≠0 then _ else if b<a then _ else _);rw[if_neg (by omega),if_pos c1];rfl
  refine lY (by simpa using c1) (fun hc=>?_)
  (try rw[hc])
  conv=>whnf
  by_cases c2:a=b
  ·refine kO (by simpa using c2) (fun hc=>?_)
   (try rw[hc])
   conv=>whnf
   subst hQ;show _=nW (if(0:Int)≠0 then _ else if b<a then _ else if a=b then _ else _);rw[if_neg (by omega),if_neg c1,if_pos c2];rfl
  refine lY (by simpa using c2) (fun hc=>?_)
  (try rw[hc])
  conv=>whnf
  subst hQ;show _=nW (if(0:Int)≠0 then _ else if b<a then _ else if a=b then _ else _);rw[if_neg (by omega),if_neg c1,if_neg c2,IntWalk.i64_in _ (by omega)];rfl
end Ir
end Go.Proofs.Ytepdklcpagielaa
