/-
  Tune: what servers share, as the document has it.
-/
import Derived.Test.YtepdklcpagielaaVTunA
import Derived.Test.YtepdklcpagielaaVTunF
import Derived.Test.YtepdklcpagielaaVsX
set_option maxRecDepth 100000
set_option linter.unusedSimpArgs false
set_option linter.unusedVariables false
namespace Go.Proofs.Ytepdklcpagielaa
open Go Ads
namespace Ir
def lC(L:List Pt):Nat→Int×Int
 |0=>(0,1)
 |j+1=>match L[j]? with
  |some x=>((lC L j).1*x.cJ+x.cn*(lC L j).2,(lC L j).2*x.cJ)
  |none=>lC L j
theorem wR{L:List Pt}{j:Nat}(h:j<L.length):lC L (j+1)=((lC L j).1*L[j].cJ+L[j].cn*(lC L j).2,(lC L j).2*L[j].cJ):=by rw[lC,List.getElem?_eq_getElem h]
theorem Gw{L:List Pt}:∀j,j≤L.length→(∀i,i<j→cZ L i=false)→AR (lC L j) j
 |0,_,_=>by simp[AR,lC,Kr,Ip]
 |j+1,h,hb=>by
  have hj:=hb j (by omega);rw[mj (by omega),Bool.not_eq_false',ki] at hj;rw[wR (by omega)];obtain⟨h1,h2,h3,h4⟩:=Gw j (by omega) fun i hi=>hb i (by omega);generalize lC L j=q at*;obtain⟨a,b⟩:=q;generalize L[j].cJ=d at*;generalize L[j].cn=t at*;simp only at*;have m1:=gX h1 (show 0≤d by omega) h2 (show d≤64 by omega);have m2:=gX (show 0≤t by omega) (show 0≤b by omega) (show t≤64 by omega) h4;have m3:=gX (show 0≤b by omega) (show 0≤d by omega) h4 (show d≤64 by omega);have m4:=vz h3 (show 1≤d by omega);refine⟨?_,?_,?_,?_⟩<;>simp only[Kr,Ip]<;>omega
theorem HO{L:List Pt}:∀j,j≤L.length→(∀i,i<j→cZ L i=false)→∃g:Int,1≤g∧(lC L j).1=g*(gA L j).1∧(lC L j).2=g*(gA L j).2∧Int.gcd (gA L j).1 (gA L j).2=1
 |0,_,_=>⟨1,by omega,by simp[lC,gA],by simp[lC,gA],by simp[gA]⟩
 |j+1,h,hb=>by
  have hj:=hb j (by omega);rw[mj (by omega),Bool.not_eq_false',ki] at hj;obtain⟨g,hg,e1,e2,e3⟩:=HO j (by omega) fun i hi=>hb i (by omega);obtain⟨h1,_,h3,_⟩:=Cc j (by omega) fun i hi=>hb i (by omega);rw[wR (by omega),vO (by omega),e1,e2];generalize gA L j=q at*;obtain⟨a,b⟩:=q;generalize L[j].cJ=d at*;generalize L[j].cn=t at*;simp only at*;have hd:1≤d:=by omega
  have n1:0≤a*d:=Int.mul_nonneg h1 (by omega);have n2:0≤t*b:=Int.mul_nonneg (by omega) (by omega);have n3:=vz h3 hd;have hT:0≤kL a b t d:=by unfold kL;omega
  have hgi:gS a b t d=((Int.gcd (kL a b t d) (b*d):Nat):Int):=by
   unfold gS;rw[Int.gcd]
   congr 2<;>omega
  have Sw:0<Int.gcd (kL a b t d) (b*d):=Int.gcd_pos_of_ne_zero_right _ (by omega);have d1:gS a b t d*(kL a b t d/gS a b t d)=kL a b t d:=by
   rw[hgi];exact Int.mul_ediv_cancel' (Int.gcd_dvd_left ..)
  have d2:gS a b t d*(b*d/gS a b t d)=b*d:=by
   rw[hgi];exact Int.mul_ediv_cancel' (Int.gcd_dvd_right ..)
  refine⟨g*gS a b t d,?_,?_,?_,?_⟩
  ·have:=vz hg (show 1≤gS a b t d by omega);omega
  ·show g*a*d+t*(g*b)=g*gS a b t d*(kL a b t d/gS a b t d);rw[Int.mul_assoc g (gS a b t d),d1];unfold kL;rw[Int.mul_add,Int.mul_assoc,Int.mul_left_comm t g b]
  ·show g*b*d=g*gS a b t d*(b*d/gS a b t d);rw[Int.mul_assoc g (gS a b t d),d2,Int.mul_assoc]
  ·show Int.gcd (kL a b t d/gS a b t d) (b*d/gS a b t d)=1;have h:Int.gcd (gS a b t d*(kL a b t d/gS a b t d)) (gS a b t d*(b*d/gS a b t d))=Int.gcd (kL a b t d) (b*d):=by rw[d1,d2]
   rw[Int.gcd_mul_left] at h;have hn:(gS a b t d).natAbs=Int.gcd (kL a b t d) (b*d):=by rw[hgi];rfl
   rw[hn] at h;exact Nat.eq_of_mul_eq_mul_left Sw (by rw[h,Nat.mul_one])
theorem P2{L:List Pt}{j:Nat}(h:j≤L.length)(hb:∀i,i<j→cZ L i=false):(lC L j).1/((Int.gcd (lC L j).1 (lC L j).2:Nat):Int)=(gA L j).1∧(lC L j).2/((Int.gcd (lC L j).1 (lC L j).2:Nat):Int)=(gA L j).2:=by
 obtain⟨g,hg,e1,e2,e3⟩:=HO j h hb;rw[e1,e2,Int.gcd_mul_left,e3,Nat.mul_one];have:((g.natAbs:Nat):Int)=g:=by omega
 rw[this];exact⟨Int.mul_ediv_cancel_left _ (by omega),Int.mul_ediv_cancel_left _ (by omega)⟩
theorem Vh{B:Nat}{Q:AX→Env→Heap→Prop}{h:Heap}{T U:Int}{G:Nat}(hQ:∀e',aP e' [(5,.int .i64 T),(6,.int .i64 U),(9,.int .i64 ((G:Nat):Int))]→Q (.exit 2) e' h):
  ∀(b a:Nat) (env:Env),a<2^62→b<2^62→Nat.gcd a b=G→aP env [(5,.int .i64 T),(6,.int .i64 U),(9,.int .i64 ((a:Nat):Int)),(10,.int .i64 ((b:Nat):Int))]→
  VC fs ms B false (.loop j6) env h Q:=by
 intro b;induction b using Nat.strongRecOn with
 |ind b ih=>
 intro a env ha hb hg cH;refine ak 4 _ cH ?_;refine lU (z:=true) ?_;conv=>whnf
 rcases Nat.eq_zero_or_pos b with h0|h0
 ·subst h0;conv=>whnf
  rw[Nat.gcd_zero_right] at hg;subst hg;exact hQ _ ⟨rfl,rfl,rfl,trivial⟩
 ·refine kO ((show decide (((b:Nat):Int)>0)=true from decide_eq_true (by omega))) (fun hc=>?_)
  (try rw[hc])
  conv=>whnf
  have hr:pV (.bin .rem) [.int .i64 ((a:Nat):Int),.int .i64 ((b:Nat):Int)]=some (.int .i64 ((a%b:Nat):Int)):=by
   rw[ya _ _ (by omega)];exact congrArg (fun z=>some (AV.int .i64 z)) (Int.ofNat_tmod a b).symm
  refine⟨_,hr,?_⟩;conv=>whnf
  have hlt:=Nat.mod_lt a h0;exact ih (a%b) hlt b _ hb (by omega) (by rw[←hg,Nat.gcd_comm b,←Nat.gcd_rec,Nat.gcd_comm]) ⟨rfl,rfl,rfl,rfl,trivial⟩
def MI(k:Nat)(L:List Pt)(j:Nat):List (Nat×AV):=[(0,.fz k (pts L)),(5,.int .i64 (lC L j).1),(6,.int .i64 (lC L j).2),(7,.int .i64 ((j:Nat):Int))]
theorem Xe{k:Nat}{L:List Pt}{B:Nat}{Q:AX→Env→Heap→Prop}(h4:L.length≤4)
  (hR:∀e' h',(∃i,i<L.length∧cZ L i=true)→Tr.get e' 2=some (.int .i64 0)→Tr.get e' 3=some (.int .i64 0)→Tr.get e' 4=some (.int .i64 2)→Q .ret e' h')
  (hX:∀e' h',(∀i,i<L.length→cZ L i=false)→aP e' (MI k L L.length)→Q (.exit 0) e' h'):
  ∀(n j:Nat) (h:Heap) (env:Env),L.length-j=n→j≤L.length→(∀i,i<j→cZ L i=false)→aP env (MI k L j)→
  VC fs ms B false (.loop j5) env h Q:=by
 intro n;induction n using Nat.strongRecOn with
 |ind n ih=>
 intro j h env hn hj hb cH;obtain⟨r1,r2,r3,r4⟩:=Gw j hj hb;have hbd:Kr j≤67108864∧Ip j≤16777216:=by
  rcases j with _|_|_|_|_|j
  ·decide
  ·decide
  ·decide
  ·decide
  ·decide
  ·omega
 refine ak 4 _ cH ?_;refine bJ (aj true ?_);unfold MI;conv=>whnf
 rw[bh];refine br (fun hc=>?_) (fun hc=>?_)<;>(try rw[hc])<;>(conv=>whnf)
 ·have hlt:j<L.length:=by have:=of_decide_eq_true hc;omega
  have rG:=gH (k:=k) hlt;have ir:=wR hlt;have ur:=mj hlt;generalize hx:L[j]=x at*;obtain⟨cJ,cn,kk,ts⟩:=x;simp only at ir;obtain⟨T,hT⟩:∃T,(lC L j).1=T:=⟨_,rfl⟩;obtain⟨U,hU⟩:∃U,(lC L j).2=U:=⟨_,rfl⟩;rw[hT,hU] at ir⊢;rw[hT] at r1 r2;rw[hU] at r3 r4;refine az (aL ?_);refine aj true ?_;conv=>whnf
  refine⟨_,rG,?_⟩;conv=>whnf
  refine⟨.agg [.int .i64 cJ,.int .i64 cn,.fz kk (dI ts)],rfl,?_⟩;conv=>whnf
  refine aT (cD an rfl (Nat.le_refl _) rfl) fun h1 e1=>?_;conv=>whnf
  have gb:h1.get h.next=some (.cells [.int .i64 cJ,.int .i64 cn,.fz kk (dI ts)] true 0):=by rw[e1,aG];rfl
  clear e1;refine ak 4 [(0,.fz k (pts L)),(5,.int .i64 T),(6,.int .i64 U),(7,.int .i64 ((j:Nat):Int)),(8,.ptr h.next 0)] ⟨rfl,rfl,rfl,rfl,rfl,trivial⟩ ?_;have hno:oE ⟨cJ,cn,kk,ts⟩=false→∃i,i<L.length∧cZ L i=true:=fun hn=>⟨j,hlt,by rw[ur,hn];rfl⟩;have okk:oE ⟨cJ,cn,kk,ts⟩=true↔cJ≤64∧1≤cn∧cn≤cJ:=ki _;have Zr:¬(cJ≤64∧1≤cn∧cn≤cJ)→oE ⟨cJ,cn,kk,ts⟩=false:=fun h=>qz (x:=⟨cJ,cn,kk,ts⟩) h;refine aj true ?_;conv=>whnf
  refine⟨_,bA gb rfl,?_⟩;conv=>whnf
  refine br (fun hc=>?_) (fun hc=>?_)<;>(try rw[hc])<;>(conv=>whnf)
  ·have h1:=of_decide_eq_true hc;exact hR _ _ (hno (Zr (by omega))) rfl rfl rfl
  have c1:¬cJ<1:=of_decide_eq_false hc;clear hc;refine⟨_,bA gb rfl,?_⟩;conv=>whnf
  refine br (fun hc=>?_) (fun hc=>?_)<;>(try rw[hc])<;>(conv=>whnf)
  ·have h1:=of_decide_eq_true hc;exact hR _ _ (hno (Zr (by omega))) rfl rfl rfl
  have c2:¬cJ>64:=of_decide_eq_false hc;clear hc;refine⟨_,bA gb rfl,?_⟩;conv=>whnf
  refine br (fun hc=>?_) (fun hc=>?_)<;>(try rw[hc])<;>(conv=>whnf)
  ·have h1:=of_decide_eq_true hc;exact hR _ _ (hno (Zr (by omega))) rfl rfl rfl
  have c3:¬cn<1:=of_decide_eq_false hc;clear hc;refine⟨_,bA gb rfl,?_⟩;conv=>whnf
  refine⟨_,bA gb rfl,?_⟩;conv=>whnf
  refine br (fun hc=>?_) (fun hc=>?_)<;>(try rw[hc])<;>(conv=>whnf)
  ·have h1:=of_decide_eq_true hc;exact hR _ _ (hno (Zr (by omega))) rfl rfl rfl
  have c4:¬cn>cJ:=of_decide_eq_false hc;clear hc;have hok:cZ L j=false:=by rw[ur,okk.2 ⟨by omega,by omega,by omega⟩];rfl
  have m1:=gX r1 (show 0≤cJ by omega) r2 (show cJ≤64 by omega);have m2:=gX (show 0≤cn by omega) (show 0≤U by omega) (show cn≤64 by omega) r4;have m3:=gX (show 0≤U by omega) (show 0≤cJ by omega) r4 (show cJ≤64 by omega);have w1:IntKind.i64.wrap (IntKind.i64.wrap (T*cJ)+IntKind.i64.wrap (cn*U))=T*cJ+cn*U:=by
   rw[IntWalk.i64_in (T*cJ) (by omega),IntWalk.i64_in (cn*U) (by omega),IntWalk.i64_in _ (by omega)]
  have w2:IntKind.i64.wrap (U*cJ)=U*cJ:=IntWalk.i64_in _ (by omega);refine aa (z:=true) ?_;conv=>whnf
  refine⟨_,bA gb rfl,?_⟩;conv=>whnf
  refine⟨_,bA gb rfl,?_⟩;conv=>whnf
  rw[w1];refine⟨_,bA gb rfl,?_⟩;conv=>whnf
  rw[w2];refine aa (z:=true) ?_;conv=>whnf
  refine ih (L.length-(j+1)) (by omega) (j+1) h1 _ rfl (by omega) (fun i hi=>?_) ?_
  ·by_cases e:i=j
   ·rw[e];exact hok
   ·exact hb i (by omega)
  ·unfold MI;rw[ir];exact⟨rfl,rfl,rfl,ay (by omega),trivial⟩
 ·have hge:j=L.length:=by have:=of_decide_eq_false hc;omega
  subst hge;exact hX _ h hb ⟨rfl,rfl,rfl,rfl,trivial⟩
theorem ET{L:List Pt}(h:4<L.length∨∃i,i<L.length∧cZ L i=true):kV L=(0,0,2):=by
 have:(nU L).2=false:=by
  unfold nU;by_cases h4:4<L.length
  ·rw[if_pos h4]
  ·rw[if_neg h4];obtain⟨i,hi,hb⟩:=h.resolve_left h4;cases hf:eA (cZ L) 0 L.length with
   |some u=>rfl
   |none=>
    have:=jK hf i hi;rw[Nat.zero_add,hb] at this;cases this
 rw[kV,if_neg (by rw[this];decide)]
theorem Qp{L:List Pt}(h4:L.length≤4)(h:∀i,i<L.length→cZ L i=false):kV L=((gA L L.length).1,(gA L L.length).2,0):=by
 have:nU L=(gA L L.length,true):=by
  unfold nU;rw[if_neg (by omega)];cases hf:eA (cZ L) 0 L.length with
  |none=>rfl
  |some u=>
   obtain⟨u1,u2,u3,u4⟩:=lP hf;rw[h u (by omega)] at u3;cases u3
 rw[kV,this,if_pos rfl]
theorem Xd(k:Nat)(L:List Pt)(hs:L.length<2^60):PC fs ms 51 [.fz k (pts L)] (nW (kV L)):=by
 refine aX (by simp[bL,AV.cl,bz]) rfl ?_;generalize hK:(fun(u:AV) (_:Heap)=>u=nW (kV L))=K;have QW:∀h v,v=nW (kV L)→K v h:=fun h v e=>by subst hK;exact e
 clear hK;generalize(⟨0,.nil⟩:Heap)=h0;refine bw (af:=XS) rfl (Nat.le_of_ble_eq_true rfl) ?_;conv=>whnf
 refine aj true ?_;conv=>whnf
 refine aj true ?_;conv=>whnf
 rw[bh];refine br (fun hc=>?_) (fun hc=>?_)<;>(try rw[hc])<;>(conv=>whnf)
 ·have h4:4<L.length:=by have:=of_decide_eq_true hc;omega
  exact QW _ _ (by rw[ET (.inl h4)];rfl)
 have h4:L.length≤4:=by have:=of_decide_eq_false hc;omega
 refine aj true ?_;conv=>whnf
 refine az (aj true ?_);conv=>whnf
 refine aL ?_;refine Xe (k:=k) h4 ?_ ?_ _ 0 h0 _ rfl (Nat.zero_le _) (fun i hi=>by omega) ⟨rfl,rfl,rfl,rfl,trivial⟩
 ·intro e' h' hb g2 g3 g4;show vX [.tmp 2,.tmp 3,.tmp 4] K .ret e' h';simp only[vX,er,oR,g2,g3,g4];exact QW _ _ (by rw[ET (.inr hb)];rfl)
 ·intro e' h' hok he;show VC fs ms _ _ _ _ _ _;obtain⟨r1,r2,r3,r4⟩:=Gw L.length (Nat.le_refl _) hok;obtain⟨q1,q2⟩:=P2 (Nat.le_refl _) hok;have hS:=Qp h4 hok;have hbd:Kr L.length≤67108864∧Ip L.length≤16777216:=by
   generalize L.length=j at h4;rcases j with _|_|_|_|_|j
   ·decide
   ·decide
   ·decide
   ·decide
   ·decide
   ·omega
  rw[hS] at QW;unfold MI at he;generalize gA L L.length=q at*;obtain⟨qa,qb⟩:=q;generalize lC L L.length=r at*;obtain⟨T,U⟩:=r;simp only at*;obtain⟨a,rfl⟩:∃a:Nat,T=a:=⟨T.toNat,by omega⟩;obtain⟨b,rfl⟩:∃b:Nat,U=b:=⟨U.toNat,by omega⟩;obtain⟨G,hG⟩:∃G,Nat.gcd a b=G:=⟨_,rfl⟩;have hGi:Int.gcd ((a:Nat):Int) ((b:Nat):Int)=G:=hG;rw[hGi] at q1 q2;have hG0:0<G:=by rw[←hG];exact Nat.gcd_pos_of_pos_right _ (by omega)
  refine ak 4 [(5,.int .i64 ((a:Nat):Int)),(6,.int .i64 ((b:Nat):Int))] ⟨he.2.1,he.2.2.1,trivial⟩ (aj true ?_);conv=>whnf
  refine az (aL ?_);refine Vh (T:=((a:Nat):Int)) (U:=((b:Nat):Int)) (G:=G) ?_ b a _ (by omega) (by omega) hG ⟨rfl,rfl,rfl,rfl,trivial⟩;intro e2 VK;show VC fs ms _ _ _ _ _ _;have v1:pV (.bin .quo) [.int .i64 ((a:Nat):Int),.int .i64 ((G:Nat):Int)]=some (.int .i64 qa):=by
   rw[jU _ _ (by omega),Int.tdiv_eq_ediv_of_nonneg (by omega),q1];have:qa≤a:=by rw[←q1];exact Int.ediv_le_self _ (by omega)
   have:0≤qa:=by rw[←q1];exact Int.ediv_nonneg (by omega) (by omega)
   rw[IntWalk.i64_in _ (by omega)]
  have v2:pV (.bin .quo) [.int .i64 ((b:Nat):Int),.int .i64 ((G:Nat):Int)]=some (.int .i64 qb):=by
   rw[jU _ _ (by omega),Int.tdiv_eq_ediv_of_nonneg (by omega),q2];have:qb≤b:=by rw[←q2];exact Int.ediv_le_self _ (by omega)
   have:0≤qb:=by rw[←q2];exact Int.ediv_nonneg (by omega) (by omega)
   rw[IntWalk.i64_in _ (by omega)]
  refine ak 4 _ VK (aa (z:=true) ?_);conv=>whnf
  refine⟨_,v1,?_⟩;conv=>whnf
  refine⟨_,v2,?_⟩;conv=>whnf
  exact QW _ _ rfl
theorem P8(k:Nat)(L:List Pt)(hs:L.length<2^60):PC fs ms 30 [.fz k (pts L)] (nW (ym L)):=by
 refine aX (by simp[bL,AV.cl,bz]) rfl ?_;refine aC (af:=XJ) false rfl (Nat.le_of_ble_eq_true rfl) ?_;generalize hQ:(fun(v:AV) (_:Heap)=>v=nW (ym L))=Q;have hc:=Xd k L hs;have hin:kV L=(0,0,2)∨(0≤(kV L).1∧(kV L).1≤67108864∧1≤(kV L).2.1∧(kV L).2.1≤16777216∧(kV L).2.2=0):=by
  unfold kV;by_cases h:(nU L).2=true
  ·rw[if_pos h];have:=HW h;exact .inr ⟨this.1,this.2.1,this.2.2.1,this.2.2.2,rfl⟩
  ·rw[if_neg h];exact .inl rfl
 unfold ym at hQ;generalize kV L=q at*;obtain⟨a,b,e⟩:=q;conv=>whnf
 refine au (v:=.cQ [.int .i64 a,.int .i64 b,.int .i64 e]) hc ?_;conv=>whnf
 simp only[Prod.mk.injEq] at hin;rcases hin with⟨rfl,rfl,rfl⟩|⟨h1,h2,h3,h4,rfl⟩
 ·conv=>whnf
  subst hQ;rfl
 ·conv=>whnf
  by_cases c1:b<a
  ·refine kO (by simpa using c1) (fun hc=>?_)
   (try rw[hc])
   conv=>whnf
   subst hQ;show _=nW (if(0:Int)≠0 then _ else if b<a then _ else _);rw[if_neg (by omega),if_pos c1];rfl
  refine lY (by simpa using c1) (fun hc=>?_)
  (try rw[hc])
  conv=>whnf
  rw[IntWalk.i64_in (b-a) (by omega)];by_cases c2:a=b
  ·refine kO (by simp;omega) (fun hc=>?_)
   (try rw[hc])
   conv=>whnf
   subst hQ;show _=nW (if(0:Int)≠0 then _ else if b<a then _ else if a=b then _ else _);rw[if_neg (by omega),if_neg c1,if_pos c2,show b-a=0 by omega];rfl
  refine lY (by simp;omega) (fun hc=>?_)
  (try rw[hc])
  conv=>whnf
  subst hQ;show _=nW (if(0:Int)≠0 then _ else if b<a then _ else if a=b then _ else _);rw[if_neg (by omega),if_neg c1,if_neg c2];rfl
end Ir
end Go.Proofs.Ytepdklcpagielaa
