/-
  Tune: what servers share.
-/
import Derived.Test.YtecdcefacdodgaaVLocC
import Derived.Test.YtecdcefacdodgaaZA
set_option maxRecDepth 100000
set_option linter.unusedSimpArgs false
set_option linter.unusedVariables false
namespace Go.Proofs.Ytecdcefacdodgaa
open Go Ads
namespace Ir
def jC(a b t d:Int):Int:=a*d+t*b
def gS(a b t d:Int):Int:=(Nat.gcd (jC a b t d).toNat (b*d).toNat:Nat)
def qK(p:Int×Int)(t d:Int):Int×Int:=(jC p.1 p.2 t d/gS p.1 p.2 t d,p.2*d/gS p.1 p.2 t d)
theorem m7{a b A B:Int}(ha:0≤a)(hb:0≤b)(hA:a≤A)(hB:b≤B):0≤a*b∧a*b≤A*B:=
 ⟨Int.mul_nonneg ha hb,Int.mul_le_mul hA hB hb (by omega)⟩
theorem Aj{a b:Int}(ha:1≤a)(hb:1≤b):1≤a*b:=by
 have:=Int.mul_pos (show 0<a by omega) (show 0<b by omega);omega
theorem PR(a b t d:Int)(ha:0≤a∧a≤67108864)(hb:1≤b∧b≤262144)(ht:1≤t∧t≤64)(hd:1≤d∧d≤64):
  PC fs ms 106 [.agg [.int .i64 a,.int .i64 b],.agg [.int .i64 t,.int .i64 d]] (.agg [.int .i64 (qK (a,b) t d).1,.int .i64 (qK (a,b) t d).2]):=by
 refine bq rfl rfl ?_;refine aA (af:=KI) false rfl (Nat.le_of_ble_eq_true rfl) ?_;generalize hQ:(fun(v:AV) (_:Heap)=>v=.agg [.int .i64 (qK (a,b) t d).1,.int .i64 (qK (a,b) t d).2])=Q;have m1:=m7 ha.1 (show 0≤d by omega) ha.2 hd.2;have m2:=m7 (show 0≤t by omega) (show 0≤b by omega) ht.2 hb.2;have m3:=m7 (show 0≤b by omega) (show 0≤d by omega) hb.2 hd.2;have m4:=Aj hb.1 hd.1;have w1:IntKind.i64.wrap (a*d)=a*d:=IntWalk.i64_in _ (by omega);have w2:IntKind.i64.wrap (t*b)=t*b:=IntWalk.i64_in _ (by omega);have w3:IntKind.i64.wrap (b*d)=b*d:=IntWalk.i64_in _ (by omega);have w4:IntKind.i64.wrap (a*d+t*b)=jC a b t d:=IntWalk.i64_in _ (by omega);have hT:0≤jC a b t d∧jC a b t d≤1099511627776:=by unfold jC;omega
 have hg:oP (jC a b t d) (b*d)=(gS a b t d,0):=by
  unfold oP;rw[(bP _).2 hT,(bP _).2 ⟨by omega,by omega⟩];rfl
 have F6:1≤gS a b t d:=by
  have:0<Nat.gcd (jC a b t d).toNat (b*d).toNat:=Nat.gcd_pos_of_pos_right _ (by omega);unfold gS;omega
 have hF:qK (a,b) t d=(jC a b t d/gS a b t d,b*d/gS a b t d):=rfl;have hc:=Ni (jC a b t d) (b*d);rw[hg] at hc;conv=>whnf
 rw[w1,w2,w3,w4];refine ai (v:=.cC [.int .i64 (gS a b t d),.int .i64 0]) hc ?_;conv=>whnf
 refine⟨_,jK _ _ (by omega),?_⟩;conv=>whnf
 refine⟨_,jK _ _ (by omega),?_⟩;conv=>whnf
 subst hQ;rw[hF,Int.tdiv_eq_ediv_of_nonneg hT.1,Int.tdiv_eq_ediv_of_nonneg m3.1];have e1:=Int.ediv_nonneg hT.1 (show 0≤gS a b t d by omega);have e2:=Int.ediv_le_self (gS a b t d) hT.1;have e3:=Int.ediv_nonneg m3.1 (show 0≤gS a b t d by omega);have e4:=Int.ediv_le_self (gS a b t d) m3.1;rw[IntWalk.i64_in _ (by omega),IntWalk.i64_in _ (by omega)];rfl
def Ku:Nat→Int
 |0=>1
 |j+1=>Ku j*64
def M4:Nat→Int
 |0=>0
 |j+1=>M4 j*64+64*Ku j
theorem Hw{j:Nat}(h:j≤3):M4 j≤67108864∧Ku j≤262144:=by
 rcases j with _|_|_|_|j
 ·decide
 ·decide
 ·decide
 ·decide
 ·omega
def qn(x:Pt):Bool:=decide (x.bV≤64)&&decide (1≤x.cE)&&decide (x.cE≤x.bV)
theorem mu(x:Pt):qn x=true↔x.bV≤64∧1≤x.cE∧x.cE≤x.bV:=by simp[qn,and_assoc]
theorem rF{x:Pt}(h:¬(x.bV≤64∧1≤x.cE∧x.cE≤x.bV)):qn x=false:=by rw[←Bool.not_eq_true,mu];exact h
def fo(L:List Pt)(j:Nat):Bool:=match L[j]? with
 |some x=>!qn x
 |none=>false
theorem pq{L:List Pt}{j:Nat}(h:j<L.length):fo L j=!qn L[j]:=by rw[fo,List.getElem?_eq_getElem h]
def gO(L:List Pt):Nat→Int×Int
 |0=>(0,1)
 |j+1=>match L[j]? with
  |some x=>qK (gO L j) x.cE x.bV
  |none=>gO L j
theorem sW{L:List Pt}{j:Nat}(h:j<L.length):gO L (j+1)=qK (gO L j) L[j].cE L[j].bV:=by rw[gO,List.getElem?_eq_getElem h]
def x8(p:Int×Int)(j:Nat):Prop:=0≤p.1∧p.1≤M4 j∧1≤p.2∧p.2≤Ku j
theorem Lw:∀j,1≤Ku j
 |0=>by decide
 |j+1=>by have:=Lw j;simp only[Ku];omega
theorem AI{p:Int×Int}{j:Nat}{t d:Int}(h:x8 p j)(ht:1≤t∧t≤64)(hd:1≤d∧d≤64):x8 (qK p t d) (j+1):=by
 obtain⟨a,b⟩:=p;obtain⟨h1,h2,h3,h4⟩:=h;simp only at h1 h2 h3 h4;have m1:=m7 h1 (show 0≤d by omega) h2 hd.2;have m2:=m7 (show 0≤t by omega) (show 0≤b by omega) ht.2 h4;have m3:=m7 (show 0≤b by omega) (show 0≤d by omega) h4 hd.2;have m4:=Aj h3 hd.1;have hT:0≤jC a b t d∧jC a b t d≤M4 (j+1):=by unfold jC;simp only[M4];omega
 have F6:0<Nat.gcd (jC a b t d).toNat (b*d).toNat:=Nat.gcd_pos_of_pos_right _ (by omega);have Xf:Nat.gcd (jC a b t d).toNat (b*d).toNat≤(b*d).toNat:=Nat.gcd_le_right _ (by omega);have hg:gS a b t d=(Nat.gcd (jC a b t d).toNat (b*d).toNat:Nat):=rfl;have hg1:1≤gS a b t d:=by omega
 have e2:=Int.ediv_le_self (gS a b t d) hT.1;have e4:=Int.ediv_le_self (gS a b t d) m3.1;refine⟨Int.ediv_nonneg hT.1 (show 0≤gS a b t d by omega),by show jC a b t d/gS a b t d≤_;omega,?_,by show b*d/gS a b t d≤_;simp only[Ku];omega⟩;show 1≤b*d/gS a b t d;have:=Int.le_ediv_of_mul_le (a:=1) (b:=b*d) (c:=gS a b t d) (by omega) (by omega);exact this
theorem CR{L:List Pt}:∀j,j≤L.length→(∀i,i<j→fo L i=false)→x8 (gO L j) j
 |0,_,_=>by simp[x8,gO,M4,Ku]
 |j+1,h,hb=>by
  have hj:=hb j (by omega);rw[pq (by omega),Bool.not_eq_false',mu] at hj;rw[sW (by omega)];exact AI (CR j (by omega) fun i hi=>hb i (by omega)) ⟨by omega,by omega⟩ ⟨by omega,by omega⟩
def l6(L:List Pt):(Int×Int)×Bool:=if 4<L.length then((0,1),false) else match b9 (fo L) 0 L.length with
 |none=>(gO L L.length,true)
 |some u=>(gO L u,false)
def On(p:Int×Int):AV:=.agg [.int .i64 p.1,.int .i64 p.2]
def Ka(k:Nat)(L:List Pt)(j:Nat):List (Nat×AV):=[(2,.ptr 0 0),(4,.ptr 1 0),(12,.fz k (pts L)),(13,.int .i64 (L.length:Nat)),(14,.int .i64 ((j:Nat):Int))]
def Kb(p:Int×Int):Heap:=H3 (some (.cells [.int .i64 0,.int .i64 0] true 0)) (some (.cells [.int .i64 p.1,.int .i64 p.2] true 0)) none
theorem Fh{k j:Nat}{L:List Pt}{e1:Env}{h1:Heap}{q:Int×Int}(e2:Tr.get e1 2=some (.ptr 0 0))(e4:Tr.get e1 4=some (.ptr 1 0))(e12:Tr.get e1 12=some (.fz k (pts L)))(e13:Tr.get e1 13=some (.int .i64 (L.length:Nat)))
  (e14:Tr.get e1 14=some (.int .i64 ((j:Nat):Int)))(g0:h1.get 0=some (.cells [.int .i64 0,.int .i64 0] true 0))(g1:h1.get 1=some (.cells [.int .i64 q.1,.int .i64 q.2] true 0)):GC 0 id e1 h1 (ek 5 (Ka k L j)) (Kb q):=
 Oq id ⟨⟨_,e2,.ptr (by omega)⟩,⟨_,e4,.ptr (by omega)⟩,⟨_,e12,.cl (by simp[AV.cl,aS])⟩,⟨_,e13,.cl rfl⟩,⟨_,e14,.cl rfl⟩,trivial⟩ (bf ⟨_,g0,aX rfl rfl⟩) (bf ⟨_,g1,aX rfl rfl⟩) aZ (by decide) (by decide) (by decide) (by intro b hb;omega) (by omega)
theorem D8(k:Nat)(L:List Pt)(hs:Small L):PC fs ms 81 [.fz k (pts L)] (.cC [On (l6 L).1,.bool (l6 L).2]):=by
 refine bq (by simp[bn,AV.cl,aS]) rfl ?_;refine aA (af:=Qd) false rfl (Nat.le_of_ble_eq_true rfl) ?_;generalize hQ:(fun(v:AV) (_:Heap)=>v=.cC [On (l6 L).1,.bool (l6 L).2])=Q;conv=>whnf
 rw[bL];by_cases h4:4<L.length
 ·refine fP (by simp;omega) (fun hc=>?_)
  (try rw[hc])
  conv=>whnf
  subst hQ;rw[l6,if_pos h4];rfl
 refine fO (by simp;omega) (fun hc=>?_)
 (try rw[hc])
 conv=>whnf
 have hS:l6 L=match b9 (fo L) 0 L.length with|none=>(gO L L.length,true)|some u=>(gO L u,false):=by rw[l6,if_neg h4]
 have hbody:∀(K:AX→Env→Heap→Prop) j,j<L.length→(∀i,i<j→fo L i=false)→(fo L j=false→∀e1 h1,GC 0 id e1 h1 (ek 5 (Ka k L (j+1))) (Kb (gO L (j+1)))→K .normal e1 h1)→(fo L j=true→∀e1 h1,iS e1 h1 Qd.results=some [On (gO L j),.bool false]→K .ret e1 h1)→
   kX fs ms 0 false false qD (ek 5 (Ka k L j)) (Kb (gO L j)) K:=by
  intro K j hj hno k1 k2;have hin:=CR j (by omega) hno;have Tv:=pq hj;have di:=sW hj;have r7:=lD (k:=k) hj;have hbd:=Hw (j:=j) (by omega);generalize gO L j=q at*;generalize gO L (j+1)=q' at*;generalize L[j]=x at*;obtain⟨qa,qb⟩:=q;show kX fs ms 0 false false _ (ek 5 [(2,.ptr 0 0),(4,.ptr 1 0),(12,.fz k (pts L)),(13,.int .i64 (L.length:Nat)),(14,.int .i64 ((j:Nat):Int))]) ⟨3,.node (.node .nil (some (.cells [.int .i64 qa,.int .i64 qb] true 0)) .nil) (some (.cells [.int .i64 0,.int .i64 0] true 0)) (.node .nil none .nil)⟩ _;conv=>whnf
  refine fP (by simp;omega) (fun hc=>?_)
  (try rw[hc])
  conv=>whnf
  refine⟨_,r7,?_⟩;conv=>whnf
  by_cases c1:64<x.bV
  ·refine fP (by simpa using c1) (fun hc=>?_)
   (try rw[hc])
   conv=>whnf
   refine k2 (by rw[Tv,rF (by omega)];rfl) _ _ rfl
  refine fO (by simpa using c1) (fun hc=>?_)
  (try rw[hc])
  conv=>whnf
  by_cases c2:x.cE<1
  ·refine fP (by simpa using c2) (fun hc=>?_)
   (try rw[hc])
   conv=>whnf
   refine k2 (by rw[Tv,rF (by omega)];rfl) _ _ rfl
  refine fO (by simpa using c2) (fun hc=>?_)
  (try rw[hc])
  conv=>whnf
  by_cases c3:x.bV<x.cE
  ·refine fP (by simpa using c3) (fun hc=>?_)
   (try rw[hc])
   conv=>whnf
   refine k2 (by rw[Tv,rF (by omega)];rfl) _ _ rfl
  refine fO (by simpa using c3) (fun hc=>?_)
  (try rw[hc])
  conv=>whnf
  obtain⟨i1,i2,i3,i4⟩:=hin;simp only at i1 i2 i3 i4;refine ai (PR qa qb x.cE x.bV (by omega) (by omega) (by omega) (by omega)) ?_;conv=>whnf
  refine k1 (by rw[Tv,(mu x).2 (by omega)];rfl) _ _ (Fh rfl rfl rfl rfl (au (by omega)) rfl ?_);rw[di];rfl
 refine iX (Fh (q:=gO L 0) (j:=0) rfl rfl rfl ((show _=some (AV.int .i64 ((pts L).length:Nat)) from rfl).trans (by rw[bL])) rfl rfl rfl) ?_;cases mh:b9 (fo L) 0 L.length with
 |none=>
  rw[mh] at hS;have hno:∀j,j<L.length→fo L j=false:=fun j hj=>by have:=ef mh j hj;rwa [Nat.zero_add] at this
  refine gk 0 5 L.length (fun _=>True) (Ka k L) (fun j=>Kb (gO L j)) (fun j hj _=>hbody _ j hj (fun i hi=>hno i (by omega)) (fun _ e1 h1 hg=>⟨trivial,id,hg⟩) (fun he=>by rw[hno j hj] at he;cases he)) (fun _=>?_) trivial;refine fK (z:=false) ?_;show kX fs ms 0 false false _ (ek 5 [(2,.ptr 0 0),(4,.ptr 1 0),(12,.fz k (pts L)),(13,.int .i64 (L.length:Nat)),(14,.int .i64 ((L.length:Nat):Int))]) ⟨3,.node (.node .nil (some (.cells [.int .i64 (gO L L.length).1,.int .i64 (gO L L.length).2] true 0)) .nil) (some (.cells [.int .i64 0,.int .i64 0] true 0)) (.node .nil none .nil)⟩ _;generalize gO L L.length=q at*;obtain⟨qa,qb⟩:=q;conv=>whnf
  refine fO (by simp) (fun hc=>?_)
  (try rw[hc])
  conv=>whnf
  subst hQ;rw[hS];rfl
 |some u=>
  rw[mh] at hS;obtain⟨u1,u2,u3,u4⟩:=dH mh;refine gk 0 5 u (fun _=>True) (Ka k L) (fun j=>Kb (gO L j)) (fun j hj _=>hbody _ j (by omega) (fun i hi=>u4 i (by omega) (by omega)) (fun _ e1 h1 hg=>⟨trivial,id,hg⟩) (fun he=>by rw[u4 j (by omega) (by omega)] at he;cases he)) (fun _=>?_) trivial;refine fK (z:=false) (hbody _ u (by omega) (fun i hi=>u4 i (by omega) (by omega)) (fun he=>by rw[u3] at he;cases he) (fun _ e1 h1 hr=>?_));show Bf Qd.results Q .ret e1 h1;subst hQ;simp only[Bf,hr];rw[hS]
theorem TS{L:List Pt}(h:(l6 L).2=true):0≤(l6 L).1.1∧(l6 L).1.1≤67108864∧1≤(l6 L).1.2∧(l6 L).1.2≤16777216:=by
 unfold l6 at h⊢;split at h
 ·simp at h
 ·rename_i h4;rw[if_neg h4];cases mh:b9 (fo L) 0 L.length with
  |some u=>rw[mh] at h;simp at h
  |none=>
   have hin:=CR (L:=L) L.length (Nat.le_refl _) (fun i hi=>by have:=ef mh i hi;rwa [Nat.zero_add] at this);have hb:M4 L.length≤67108864∧Ku L.length≤16777216:=by
    generalize L.length=n at h4;rcases n with _|_|_|_|_|n
    ·decide
    ·decide
    ·decide
    ·decide
    ·decide
    ·omega
   obtain⟨h1,h2,h3,h5⟩:=hin;show 0≤(gO L L.length).1∧(gO L L.length).1≤_∧1≤(gO L L.length).2∧(gO L L.length).2≤_;omega
def U6(L:List Pt):Int×Int×Int:=if(l6 L).2=true then((l6 L).1.1,(l6 L).1.2,0) else(0,0,2)
def NP(p:Int×Int×Int):AV:=.cC [.int .i64 p.1,.int .i64 p.2.1,.int .i64 p.2.2]
def WV(L:List Pt):Int×Int×Int:=match U6 L with
 |(a,b,e)=>if e≠0 then(0,0,e) else if b<a then(0,0,120) else if a=b then(0,1,0) else(b-a,b,0)
end Ir
end Go.Proofs.Ytecdcefacdodgaa
