/-
  Gate: what a configuration may be. Gate: what a configuration may be; who is asked. Gate: who is asked; whether servers share too much. Gate: Test. Gate: Join.
-/
import Derived.Test.YtecdcefacdodgaaVLocC
import Derived.Test.YtecdcefacdodgaaVTunF
import Derived.Test.YtecdcefacdodgaaZA
import Derived.Test.YtecdcefacdodgaaVLocM
set_option maxRecDepth 100000
set_option linter.unusedSimpArgs false
set_option linter.unusedVariables false
namespace Go.Proofs.Ytecdcefacdodgaa
open Go Ads
namespace Ir
theorem Pp{F:Nat}{aF:List AV}{p:Pt→Bool}(k:Nat)(l:List Pt)(hl:l.length<2^62)(hcap:bn aF=true)(hp:∀m,m∈l→PC fs ms F (pt m::aF) (.bool (p m))):
  ∃n:Int,PC fs ms 119 [.fz k (pts l),.func (.func F) [] aF] (.int .i64 n)∧decide (n≥0)=l.any p:=by
 by_cases ha:l.any p=true
 ·obtain⟨j,hj,h1,h2⟩:=p7 (l:=l) (p:=fun m=>p m=true) (by simpa using ha);refine⟨(j:Nat),?_,by rw[ha];simp⟩;refine bq (by simp[bn,AV.cl,aS,hcap]) rfl ?_;refine aA (af:=G4) false rfl (Nat.le_of_ble_eq_true rfl) ?_;generalize hQ:(fun(v:AV) (_:Heap)=>v=.int .i64 (j:Nat))=Q;conv=>whnf
  refine dy 5 [(0,.fz k (pts l)),(1,.func (.func F) [] aF),(7,.int .i64 (pts l).length),(8,.int .i64 ((0:Nat):Int))] (by repeat' (first|exact trivial|refine bt rfl (by omega) ?_|refine aV rfl (by omega) ?_|refine aJ rfl (by omega) ?_|refine aC rfl (by first|rfl|simp[bn,AV.cl,aE,aS,hcap]) ?_|refine aC (au (by omega)) rfl ?_)) ?_;refine fH 5 j (fun _=>True) (fun i=>[(0,.fz k (pts l)),(1,.func (.func F) [] aF),(7,.int .i64 (pts l).length),(8,.int .i64 (i:Nat))]) ?_ ?_ trivial
  ·intro i hi _;conv=>whnf
   refine br (fun hc=>?_) (fun hc=>?_)<;>(try rw[hc])<;>(conv=>whnf)
   ·refine⟨_,lD (by omega),?_⟩;conv=>whnf
    refine ai (hp _ (List.getElem_mem _)) ?_;conv=>whnf
    refine br (fun hc=>?_) (fun hc=>?_)<;>(try rw[hc])<;>(conv=>whnf)
    ·exact absurd hc (h2 i (by omega) hi)
    ·refine⟨trivial,⟨_,rfl,.cl (by simp[AV.cl,aS])⟩,⟨_,rfl,.cl (by simp[AV.cl,bn,hcap])⟩,⟨_,rfl,.cl rfl⟩,⟨_,au (by omega),.cl rfl⟩,trivial⟩
   ·exfalso;have:=of_decide_eq_false hc;rw[bL] at this;omega
  ·intro _;conv=>whnf
   refine br (fun hc=>?_) (fun hc=>?_)<;>(try rw[hc])<;>(conv=>whnf)
   ·refine⟨_,lD hj,?_⟩;conv=>whnf
    refine ai (hp _ (List.getElem_mem _)) ?_;conv=>whnf
    refine br (fun hc=>?_) (fun hc=>?_)<;>(try rw[hc])<;>(conv=>whnf)
    ·subst hQ;rfl
    ·rw[h1] at hc;simp at hc
   ·exfalso;have:=of_decide_eq_false hc;rw[bL] at this;omega
 ·have hn:∀m,m∈l→p m=false:=by
   intro m hm;rw[Bool.eq_false_iff];intro h;exact ha (List.any_eq_true.2 ⟨m,hm,h⟩)
  refine⟨-1,?_,by rw[Bool.eq_false_iff.2 ha];decide⟩;refine bq (by simp[bn,AV.cl,aS,hcap]) rfl ?_;refine aA (af:=G4) false rfl (Nat.le_of_ble_eq_true rfl) ?_;generalize hQ:(fun(v:AV) (_:Heap)=>v=.int .i64 (-1))=Q;conv=>whnf
  refine dy 5 [(0,.fz k (pts l)),(1,.func (.func F) [] aF),(7,.int .i64 (pts l).length),(8,.int .i64 ((0:Nat):Int))] (by repeat' (first|exact trivial|refine bt rfl (by omega) ?_|refine aV rfl (by omega) ?_|refine aJ rfl (by omega) ?_|refine aC rfl (by first|rfl|simp[bn,AV.cl,aE,aS,hcap]) ?_|refine aC (au (by omega)) rfl ?_)) ?_;refine fH 5 l.length (fun _=>True) (fun i=>[(0,.fz k (pts l)),(1,.func (.func F) [] aF),(7,.int .i64 (pts l).length),(8,.int .i64 (i:Nat))]) ?_ ?_ trivial
  ·intro i hi _;conv=>whnf
   refine br (fun hc=>?_) (fun hc=>?_)<;>(try rw[hc])<;>(conv=>whnf)
   ·refine⟨_,lD (by omega),?_⟩;conv=>whnf
    refine ai (hp _ (List.getElem_mem _)) ?_;conv=>whnf
    refine br (fun hc=>?_) (fun hc=>?_)<;>(try rw[hc])<;>(conv=>whnf)
    ·rw[hn _ (List.getElem_mem hi)] at hc;simp at hc
    ·refine⟨trivial,⟨_,rfl,.cl (by simp[AV.cl,aS])⟩,⟨_,rfl,.cl (by simp[AV.cl,bn,hcap])⟩,⟨_,rfl,.cl rfl⟩,⟨_,au (by omega),.cl rfl⟩,trivial⟩
   ·exfalso;have:=of_decide_eq_false hc;rw[bL] at this;omega
  ·intro _;conv=>whnf
   refine br (fun hc=>?_) (fun hc=>?_)<;>(try rw[hc])<;>(conv=>whnf)
   ·exfalso;have:=of_decide_eq_true hc;rw[bL] at this;omega
   ·subst hQ;rfl
theorem QZ{F:Nat}{aF:List AV}{p:Pt→Bool}(k:Nat)(l:List Pt)(hl:l.length<2^62)(hcap:bn aF=true)(hp:∀m,m∈l→PC fs ms F (pt m::aF) (.bool (p m))):
  PC fs ms 91 [.fz k (pts l),.func (.func F) [] aF] (.bool (l.any p)):=by
 obtain⟨n,c1,c2⟩:=Pp k l hl hcap hp;refine bq (by simp[bn,AV.cl,aS,hcap]) rfl ?_;refine aA (af:=Tg) false rfl (Nat.le_of_ble_eq_true rfl) ?_;generalize hQ:(fun(v:AV) (_:Heap)=>v=.bool (l.any p))=Q;conv=>whnf
 refine ai c1 ?_;conv=>whnf
 subst hQ;exact congrArg AV.bool c2
theorem QY{F:Nat}{aF:List AV}(hcap:bn aF=true):PC fs ms 94 [.aq,.func (.func F) [] aF] (.bool false):=by
 refine bq (by simp[bn,AV.cl,hcap]) rfl ?_;refine aA (af:=Tj) false rfl (Nat.le_of_ble_eq_true rfl) ?_;generalize hQ:(fun(v:AV) (_:Heap)=>v=.bool false)=Q;conv=>whnf
 refine aA (af:=KW) false rfl (Nat.le_of_ble_eq_true rfl) ?_;conv=>whnf
 refine fK (z:=false) ?_;conv=>whnf
 subst hQ;rfl
def nv(n a b:Int):Bool:=decide (a≤n)&&decide (n≤b)
theorem gY{n a b:Int}:nv n a b=true↔a≤n∧n≤b:=by simp[nv]
theorem Pk{n a b:Int}:nv n a b=false↔¬(a≤n∧n≤b):=by rw[←Bool.not_eq_true,gY]
theorem eH(n a b:Int):PC fs ms 97 [.int .i64 n,.int .i64 a,.int .i64 b] (.bool (nv n a b)):=by
 refine bq rfl rfl ?_;refine aA (af:=Tl) false rfl (Nat.le_of_ble_eq_true rfl) ?_;generalize hQ:(fun(v:AV) (_:Heap)=>v=.bool (nv n a b))=Q;conv=>whnf
 by_cases h:a≤n
 ·refine fP (by simpa using h) (fun hc=>?_)
  (try rw[hc])
  conv=>whnf
  subst hQ;rw[nv,decide_eq_true h,Bool.true_and]
 ·refine fO (by simpa using h) (fun hc=>?_)
  (try rw[hc])
  conv=>whnf
  subst hQ;rw[nv,decide_eq_false h,Bool.false_and]
def qA(t:Tk)(B:Int):Bool:=nv t.p 1 64&&nv t.d 1 t.p&&nv t.w 1 t.d&&nv t.a 0 255&&nv t.c 0 4&&!(decide (t.a=0)&&!decide (t.b=0))&&(decide (t.a=0)||nv t.b 1 t.w)&&
 (if t.c=0 then decide (t.e=0)&&decide (t.f=0) else nv t.e 1 (min B t.w)&&nv t.f 1 (t.w/t.e))
theorem GK(t:Tk)(B:Int):PC fs ms 121 [tk t,.int .i64 B] (.bool (qA t B)):=by
 refine bq rfl rfl ?_;refine aA (af:=KV) false rfl (Nat.le_of_ble_eq_true rfl) ?_;generalize hQ:(fun(v:AV) (_:Heap)=>v=.bool (qA t B))=Q;conv=>whnf
 refine ai (eH t.p 1 64) ?_;cases c1:nv t.p 1 64 with
 |false=>
  conv=>whnf
  subst hQ;simp[qA,c1]
 |true=>
 conv=>whnf
 refine ai (eH t.d 1 t.p) ?_;cases c2:nv t.d 1 t.p with
 |false=>
  conv=>whnf
  subst hQ;simp[qA,c2]
 |true=>
 conv=>whnf
 refine ai (eH t.w 1 t.d) ?_;cases c3:nv t.w 1 t.d with
 |false=>
  conv=>whnf
  subst hQ;simp[qA,c3]
 |true=>
 conv=>whnf
 refine ai (eH t.a 0 255) ?_;cases c4:nv t.a 0 255 with
 |false=>
  conv=>whnf
  subst hQ;simp[qA,c4]
 |true=>
 conv=>whnf
 refine ai (eH t.c 0 4) ?_;cases c5:nv t.c 0 4 with
 |false=>
  conv=>whnf
  subst hQ;simp[qA,c5]
 |true=>
 conv=>whnf
 have h1:=gY.1 c1;have h2:=gY.1 c2;have h3:=gY.1 c3;have hpre:qA t B=(!(decide (t.a=0)&&!decide (t.b=0))&&(decide (t.a=0)||nv t.b 1 t.w)&&(if t.c=0 then decide (t.e=0)&&decide (t.f=0) else nv t.e 1 (min B t.w)&&nv t.f 1 (t.w/t.e))):=by
  simp only[qA,c1,c2,c3,c4,c5,Bool.true_and]
 have hend:∀Q':AV→Heap→Prop,(!(decide (t.a=0)&&!decide (t.b=0))&&(decide (t.a=0)||nv t.b 1 t.w))=true→qA t B=(if t.c=0 then decide (t.e=0)&&decide (t.f=0) else nv t.e 1 (min B t.w)&&nv t.f 1 (t.w/t.e)):=by
  intro _ h;rw[hpre,h,Bool.true_and]
 have hmn:(bif decide (t.w<B) then t.w else B)=min B t.w:=by
  by_cases h:t.w<B
  ·rw[decide_eq_true h,cond_true];omega
  ·rw[decide_eq_false h,cond_false];omega
 by_cases a0:t.a=0
 ·refine fP (by simpa using a0) (fun hc=>?_)
  (try rw[hc])
  conv=>whnf
  by_cases b0:t.b=0
  ·refine fO (by simpa using b0) (fun hc=>?_)
   (try rw[hc])
   conv=>whnf
   refine fO (by simpa using a0) (fun hc=>?_)
   (try rw[hc])
   conv=>whnf
   have he:=hend Q (by rw[decide_eq_true a0,decide_eq_true b0];rfl);by_cases g0:t.c=0
   ·refine fP (by simpa using g0) (fun hc=>?_)
    (try rw[hc])
    conv=>whnf
    rw[if_pos g0] at he;by_cases e0:t.e=0
    ·refine fP (by simpa using e0) (fun hc=>?_)
     (try rw[hc])
     conv=>whnf
     subst hQ;rw[he,decide_eq_true e0,Bool.true_and];exact congrArg AV.bool (by rw[Bool.eq_iff_iff];simp)
    ·refine fO (by simpa using e0) (fun hc=>?_)
     (try rw[hc])
     conv=>whnf
     subst hQ;rw[he,decide_eq_false e0,Bool.false_and]
   ·refine fO (by simpa using g0) (fun hc=>?_)
    (try rw[hc])
    conv=>whnf
    rw[if_neg g0] at he;rw[hmn];refine ai (eH t.e 1 (min B t.w)) ?_;cases c7:nv t.e 1 (min B t.w) with
    |false=>
     conv=>whnf
     subst hQ;rw[he,c7,Bool.false_and]
    |true=>
     have h7:=gY.1 c7;conv=>whnf
     refine⟨_,jK _ _ (by omega),?_⟩;conv=>whnf
     rw[show IntKind.i64.wrap (t.w.tdiv t.e)=t.w/t.e from IntWalk.i64_quo _ _ (by omega)];refine ai (eH t.f 1 (t.w/t.e)) ?_;conv=>whnf
     subst hQ;rw[he,c7,Bool.true_and]
  ·refine fP (by simpa using b0) (fun hc=>?_)
   (try rw[hc])
   conv=>whnf
   subst hQ;rw[hpre,decide_eq_true a0,decide_eq_false b0];rfl
 ·refine fO (by simpa using a0) (fun hc=>?_)
  (try rw[hc])
  conv=>whnf
  refine fP (by simpa using a0) (fun hc=>?_)
  (try rw[hc])
  conv=>whnf
  refine ai (eH t.b 1 t.w) ?_;cases c6:nv t.b 1 t.w with
  |false=>
   conv=>whnf
   subst hQ;rw[hpre,c6,decide_eq_false a0];rfl
  |true=>
   conv=>whnf
   have he:=hend Q (by rw[c6,decide_eq_false a0];rfl);by_cases g0:t.c=0
   ·refine fP (by simpa using g0) (fun hc=>?_)
    (try rw[hc])
    conv=>whnf
    rw[if_pos g0] at he;by_cases e0:t.e=0
    ·refine fP (by simpa using e0) (fun hc=>?_)
     (try rw[hc])
     conv=>whnf
     subst hQ;rw[he,decide_eq_true e0,Bool.true_and];exact congrArg AV.bool (by rw[Bool.eq_iff_iff];simp)
    ·refine fO (by simpa using e0) (fun hc=>?_)
     (try rw[hc])
     conv=>whnf
     subst hQ;rw[he,decide_eq_false e0,Bool.false_and]
   ·refine fO (by simpa using g0) (fun hc=>?_)
    (try rw[hc])
    conv=>whnf
    rw[if_neg g0] at he;rw[hmn];refine ai (eH t.e 1 (min B t.w)) ?_;cases c7:nv t.e 1 (min B t.w) with
    |false=>
     conv=>whnf
     subst hQ;rw[he,c7,Bool.false_and]
    |true=>
     have h7:=gY.1 c7;conv=>whnf
     refine⟨_,jK _ _ (by omega),?_⟩;conv=>whnf
     rw[show IntKind.i64.wrap (t.w.tdiv t.e)=t.w/t.e from IntWalk.i64_quo _ _ (by omega)];refine ai (eH t.f 1 (t.w/t.e)) ?_;conv=>whnf
     subst hQ;rw[he,c7,Bool.true_and]
end Ir
end Go.Proofs.Ytecdcefacdodgaa
set_option maxRecDepth 100000
set_option linter.unusedSimpArgs false
set_option linter.unusedVariables false
namespace Go.Proofs.Ytecdcefacdodgaa
open Go Ads
namespace Ir
theorem DR(t:Tk)(x:Pt):PC fs ms 120 [tk t,.fp (pt x).cells 0] (.bool (!qA t x.cE)):=by
 refine bq (by simp[bn,AV.cl,pt,AV.cells,bJ,tk]) rfl ?_;refine aA (af:=KU) false rfl (Nat.le_of_ble_eq_true rfl) ?_;generalize hQ:(fun(v:AV) (_:Heap)=>v=.bool (!qA t x.cE))=Q;conv=>whnf
 refine ai (GK t x.cE) ?_;conv=>whnf
 subst hQ;rfl
def lK(x:Pt):Bool:=nv x.bV 1 64&&nv x.cE 1 x.bV&&decide (x.ts.length≤4)&&x.ts.all fun t=>qA t x.cE
theorem Ho{α:Type}(l:List α)(p:α→Bool):(l.any fun x=>!p x)=!l.all p:=by
 induction l with
 |nil=>rfl
 |cons x l ih=>simp only[List.any_cons,List.all_cons,ih,Bool.not_and]
theorem Gr(x:Pt)(hx:x.ts.length≤17592186044416):PC fs ms 93 [pt x] (.bool (lK x)):=by
 refine bq (by simp[bn,EF]) rfl ?_;refine iZ (af:=Ti) rfl (Nat.le_of_ble_eq_true rfl) ?_;generalize hQ:(fun(v:AV) (_:Heap)=>v=.bool (lK x))=Q;conv=>whnf
 refine iY false ?_;conv=>whnf
 refine iq [0] (i:=1) (v':=.fp (pt x).cells 0) rfl (.ptr' (by simp) rfl (.clean (show bn (pt x).cells=true by simp[pt,AV.cells,bn,AV.cl,bJ]))) ?_;refine dy 5 [(1,.fp (pt x).cells 0)] ?_ ?_
 ·exact⟨⟨_,rfl,.cl (by simp[AV.cl,bn,pt,AV.cells,bJ])⟩,trivial⟩
 refine bg (z:=false) ?_;have h1:=A7 (F:=120) (aF:=[.fp (pt x).cells 0]) (p:=fun t=>!qA t x.cE) x.k x.ts (by omega) (by simp[bn,AV.cl,pt,AV.cells,bJ]) (fun m _=>DR m x);rw[Ho] at h1;conv=>whnf
 refine ai (eH x.bV 1 64) ?_;cases c1:nv x.bV 1 64 with
 |false=>
  conv=>whnf
  subst hQ;simp[lK,c1]
 |true=>
 conv=>whnf
 refine ai (eH x.cE 1 x.bV) ?_;cases c2:nv x.cE 1 x.bV with
 |false=>
  conv=>whnf
  subst hQ;simp[lK,c1,c2]
 |true=>
 conv=>whnf
 by_cases h4:x.ts.length≤4
 ·refine fO (by rw[bM];simp;omega) (fun hc=>?_)
  (try rw[hc])
  conv=>whnf
  refine ai h1 ?_;conv=>whnf
  subst hQ;simp[lK,c1,c2,h4]
 ·refine fP (by rw[bM];simp;omega) (fun hc=>?_)
  (try rw[hc])
  conv=>whnf
  subst hQ;simp[lK,c1,c2,h4]
theorem FJ(x:Pt)(hx:x.ts.length≤17592186044416):PC fs ms 92 [pt x] (.bool (!lK x)):=by
 refine bq (by simp[bn,EF]) rfl ?_;refine aA (af:=Th) false rfl (Nat.le_of_ble_eq_true rfl) ?_;generalize hQ:(fun(v:AV) (_:Heap)=>v=.bool (!lK x))=Q;conv=>whnf
 refine ai (Gr x hx) ?_;conv=>whnf
 subst hQ;rfl
def mc(L:List Pt):Bool:=L.all lK&&decide (1≤L.length)&&decide (L.length≤4)
def cfg(k:Nat)(L:List Pt):AV:=.agg [.fz k (pts L),.aq]
theorem qW(k:Nat)(L:List Pt):(cfg k L).cl=true:=by simp[cfg,AV.cl,bn,aS]
theorem Ba(k:Nat)(L:List Pt)(hs:Small L):PC fs ms 57 [cfg k L] (.int .i64 (if mc L=true then 0 else 50)):=by
 refine bq (by simp[bn,qW]) rfl ?_;refine iZ (af:=Ta) rfl (Nat.le_of_ble_eq_true rfl) ?_;generalize hQ:(fun(v:AV) (_:Heap)=>v=.int .i64 (if mc L=true then 0 else 50))=Q;conv=>whnf
 refine iY false ?_;conv=>whnf
 refine iq [0] (i:=1) (v':=.fp [.fz k (pts L),.aq] 0) rfl (.ptr' (by simp) rfl (.clean (by simp[cfg,AV.cells,bn,AV.cl,aS]))) ?_;refine dy 5 [(1,.fp [.fz k (pts L),.aq] 0)] ?_ ?_
 ·exact⟨⟨_,rfl,.cl (by simp[AV.cl,bn,aS])⟩,trivial⟩
 refine bg (z:=false) ?_;have h1:=QZ (F:=92) (aF:=[]) (p:=fun x=>!lK x) k L (by have:=hs.1;omega) rfl (fun m hm=>FJ m (hs.2 m hm));rw[Ho] at h1;have hC:mc L=(L.all lK&&decide (1≤L.length)&&decide (L.length≤4)):=rfl;conv=>whnf
 refine ai h1 ?_;cases c1:L.all lK with
 |false=>
  conv=>whnf
  subst hQ;rw[hC,c1];rfl
 |true=>
 conv=>whnf
 refine ai (QY (aF:=[.fp [.fz k (pts L),.aq] 0]) (by simp[AV.cl,bn,aS])) ?_;conv=>whnf
 rw[bL];refine ai (eH _ 1 4) ?_;cases c2:nv ((L.length:Nat):Int) 1 4 with
 |false=>
  conv=>whnf
  subst hQ;have:mc L=false:=by
   rw[Pk] at c2;rw[hC,c1];simp;omega
  rw[this];rfl
 |true=>
  conv=>whnf
  subst hQ;have:mc L=true:=by
   rw[gY] at c2;rw[hC,c1];simp;omega
  rw[this];rfl
end Ir
end Go.Proofs.Ytecdcefacdodgaa
set_option maxRecDepth 100000
set_option linter.unusedSimpArgs false
set_option linter.unusedVariables false
namespace Go.Proofs.Ytecdcefacdodgaa
open Go Ads
namespace Ir
def gG(l:List Bool):List AV:=l.map AV.bool
theorem lg(l:List Bool):bn (gG l)=true:=pW (enc:=AV.bool) (fun _=>rfl) l
theorem dQ(l:List Bool):(gG l).length=l.length:=List.length_map ..
theorem wQ(l:List Bool):aO 1 (gG l)=true:=iy (enc:=AV.bool) (fun _=>rfl) l
theorem I4{l:List Bool}{j k:Nat}(hj:j<l.length):pV (.aH 1) [.fz k (gG l),.int .i64 (j:Nat)]=some (.fp [.bool l[j]] 0):=z9 (enc:=AV.bool) hj rfl
def dO(L:List Pt)(w:List Bool):Int:=if mc L=true then(if w.length=L.length then 0 else 2) else 50
theorem Ez(k kw:Nat)(L:List Pt)(w:List Bool)(hs:Small L):PC fs ms 53 [cfg k L,.fz kw (gG w)] (.int .i64 (dO L w)):=by
 refine bq (by simp[bn,qW,AV.cl,lg]) rfl ?_;refine aA (af:=S7) false rfl (Nat.le_of_ble_eq_true rfl) ?_;generalize hQ:(fun(v:AV) (_:Heap)=>v=.int .i64 (dO L w))=Q;have hc:=Ba k L hs;conv=>whnf
 by_cases h:mc L=true
 ·rw[if_pos h] at hc;refine ai (v:=.int .i64 0) hc ?_;conv=>whnf
  by_cases hl:w.length=L.length
  ·refine fO (by rw[dQ,bL,hl];simp) (fun hc=>?_)
   (try rw[hc])
   conv=>whnf
   subst hQ;rw[dO,if_pos h,if_pos hl]
  ·refine fP (by rw[dQ,bL];simp;omega) (fun hc=>?_)
   (try rw[hc])
   conv=>whnf
   subst hQ;rw[dO,if_pos h,if_neg hl]
 ·rw[if_neg h] at hc;refine ai (v:=.int .i64 50) hc ?_;conv=>whnf
  subst hQ;rw[dO,if_neg h]
theorem Ls(a b:Int):PC fs ms 82 [.agg [.int .i64 a,.int .i64 b]] (.bool (decide (b<a))):=by
 refine bq rfl rfl ?_;refine aA (af:=Tb) false rfl (Nat.le_of_ble_eq_true rfl) ?_;generalize hQ:(fun(v:AV) (_:Heap)=>v=.bool (decide (b<a)))=Q;conv=>whnf
 by_cases h:b<a
 ·refine fP (by simpa using h) (fun hc=>?_)
  (try rw[hc])
  conv=>whnf
  have he:∀(a:Int),er [0,0] [.int .i64 a,.int .i64 b] [.int .i64 1,.int .i64 1]=some (decide (a=1)&&decide (b=1)):=by
   intro a;have hb:∀x:Int,(x==1)=decide (x=1):=fun x=>by rw[Bool.eq_iff_iff];simp
   by_cases h1:a=1<;>by_cases h2:b=1<;>simp[er,uk,hb,h1,h2]
  refine dX (v:=.bool (!(decide (a=1)&&decide (b=1)))) (by show(er [0,0] [.int .i64 a,.int .i64 b] [.int .i64 1,.int .i64 1]).map (fun b=>AV.bool !b)=_;rw[he];rfl) ?_;conv=>whnf
  subst hQ;have:(decide (a=1)&&decide (b=1))=false:=by simp;omega
  rw[this,decide_eq_true h];rfl
 ·refine fO (by simpa using h) (fun hc=>?_)
  (try rw[hc])
  conv=>whnf
  subst hQ;rw[decide_eq_false h]
def iU(L:List Pt):Int:=if(l6 L).2=true then(if(l6 L).1.2<(l6 L).1.1 then 120 else 0) else 2
theorem Ck(k:Nat)(L:List Pt)(hs:Small L):PC fs ms 54 [.fz k (pts L)] (.int .i64 (iU L)):=by
 refine bq (by simp[bn,AV.cl,aS]) rfl ?_;refine aA (af:=S8) false rfl (Nat.le_of_ble_eq_true rfl) ?_;generalize hQ:(fun(v:AV) (_:Heap)=>v=.int .i64 (iU L))=Q;have hc:=D8 k L hs;unfold iU at hQ;generalize l6 L=q at*;obtain⟨⟨qa,qb⟩,o⟩:=q;conv=>whnf
 refine ai (v:=.cC [.agg [.int .i64 qa,.int .i64 qb],.bool o]) hc ?_;conv=>whnf
 cases o with
 |false=>
  conv=>whnf
  subst hQ;rfl
 |true=>
  conv=>whnf
  refine ai (Ls qa qb) ?_;by_cases h:qb<qa
  ·rw[decide_eq_true h];conv=>whnf
   subst hQ;simp[h]
  ·rw[decide_eq_false h];conv=>whnf
   subst hQ;simp[h]
end Ir
end Go.Proofs.Ytecdcefacdodgaa
set_option maxRecDepth 100000
set_option linter.unusedSimpArgs false
set_option linter.unusedVariables false
namespace Go.Proofs.Ytecdcefacdodgaa
open Go Ads
namespace Ir
def cR(L:List Pt)(w:List Bool):Nat→List Pt
 |0=>[]
 |j+1=>match L[j]?,w[j]? with
  |some x,some true=>cR L w j++[x]
  |_,_=>cR L w j
def nj(w:List Bool):Nat→List Int
 |0=>[]
 |j+1=>match w[j]? with
  |some true=>nj w j++[((j:Nat):Int)]
  |_=>nj w j
theorem lP{L:List Pt}{w:List Bool}{j:Nat}(h:j<L.length)(h2:j<w.length)(h3:w[j]=true):cR L w (j+1)=cR L w j++[L[j]]:=by
 rw[cR,List.getElem?_eq_getElem h,List.getElem?_eq_getElem h2,h3]
theorem qm{L:List Pt}{w:List Bool}{j:Nat}(h:j<L.length)(h2:j<w.length)(h3:w[j]=false):cR L w (j+1)=cR L w j:=by
 rw[cR,List.getElem?_eq_getElem h,List.getElem?_eq_getElem h2,h3]
theorem Ce{w:List Bool}{j:Nat}(h2:j<w.length)(h3:w[j]=true):nj w (j+1)=nj w j++[((j:Nat):Int)]:=by
 rw[nj,List.getElem?_eq_getElem h2,h3]
theorem Fk{w:List Bool}{j:Nat}(h2:j<w.length)(h3:w[j]=false):nj w (j+1)=nj w j:=by
 rw[nj,List.getElem?_eq_getElem h2,h3]
theorem sI{L:List Pt}{w:List Bool}(hl:w.length=L.length):∀j,j≤L.length→(cR L w j).length≤j∧(nj w j).length=(cR L w j).length
 |0,_=>by simp[cR,nj]
 |j+1,h=>by
  obtain⟨h1,h2⟩:=sI hl j (by omega);cases h3:w[j]'(by omega) with
  |true=>
   rw[lP (by omega) (by omega) h3,Ce (by omega) h3];simp;omega
  |false=>
   rw[qm (by omega) (by omega) h3,Fk (by omega) h3];omega
theorem pn{L:List Pt}{w:List Bool}{x:Pt}:∀{j},x∈cR L w j→x∈L
 |0,h=>by simp[cR] at h
 |j+1,h=>by
  rw[cR] at h;split at h
  ·rename_i y h1 h2;rcases List.mem_append.1 h with h|h
   ·exact pn h
   ·simp at h;rw[h];exact List.mem_of_getElem? h1
  ·exact pn h
def Cx(w:List Bool)(n i:Nat):Int:=(nj w n).getD i 0
def gn(L:List Pt)(w:List Bool):Int×Int×Int:=
 if dO L w≠0 then(0,0,dO L w)
 else if iU (cR L w L.length)≠0 then(-1,0,iU (cR L w L.length))
 else match b9 (fun i=>!((cB (cR L w L.length) ((i:Nat):Int)).2==0)) 0 (cR L w L.length).length with
  |none=>(-1,0,0)
  |some i=>(Cx w L.length i,(cB (cR L w L.length) ((i:Nat):Int)).1,(cB (cR L w L.length) ((i:Nat):Int)).2)
def RP(n m:Nat):List AV:=(bR [.int .i64 0,.int .i64 0,.aq] n).drop (m*3)
def RI(n m:Nat):List AV:=(bR [.int .i64 0] n).drop (m*1)
theorem tW(z:List AV):∀n,(bR z n).length=n*z.length
 |0=>by simp[bR]
 |n+1=>by rw[bR,List.length_append,tW z n,Nat.succ_mul];omega
theorem xu{z:List AV}(h:bn z=true):∀n,bn (bR z n)=true
 |0=>rfl
 |n+1=>kB h (xu h n)
theorem ED{l:List AV}(h:bn l=true)(j:Nat):bn (l.drop j)=true:=by
 induction l generalizing j with
 |nil=>simp[bn]
 |cons x l ih=>
  cases j with
  |zero=>exact h
  |succ j=>
   simp only[bn,Bool.and_eq_true] at h;exact ih h.2 j
theorem NY(n m:Nat):(RP n m).length=(n-m)*3:=by rw[RP,List.length_drop,tW,Nat.sub_mul];rfl
theorem NX(n m:Nat):(RI n m).length=(n-m)*1:=by rw[RI,List.length_drop,tW,Nat.sub_mul];rfl
theorem Lr(n m:Nat):(RP n m).drop 3=RP n (m+1):=by rw[RP,RP,List.drop_drop,Nat.succ_mul]
theorem Lq(n m:Nat):(RI n m).drop 1=RI n (m+1):=by rw[RI,RI,List.drop_drop,Nat.succ_mul]
theorem QL(n m:Nat):bn (RP n m)=true:=ED (xu (by rfl) n) _
theorem QK(n m:Nat):bn (RI n m)=true:=ED (xu (by rfl) n) _
def gP(n:Nat)(S:List Pt):List AV:=ah (pts S)++RP n S.length
def gI(n:Nat)(I:List Int):List AV:=ah (ints I)++RI n I.length
theorem Nd(n:Nat)(S:List Pt):bn (gP n S)=true:=kB (gD (aS S)) (QL _ _)
theorem Nb(n:Nat)(I:List Int):bn (gI n I)=true:=kB (gD (aE I)) (QK _ _)
def vI(n:Nat)(S:List Pt)(I:List Int):Heap:=H3 (some (.cells (gP n S) true 0)) (some (.cells (gI n I) true 0)) none
theorem E7{zs:List AV}{sz bytes n:Nat}(hn:n≤4)(hb:bytes≤1048576):aI (.dj zs sz bytes) [.int .i64 0,.int .i64 (n:Nat)]=some (.cells (bR zs n) true 0,fun b=>.sl b 0 0 n false):=by
 have hm:bytes*n≤1048576*4:=Nat.mul_le_mul hb hn;have b2:Nat.ble (bytes*n) 140737488355328=true:=Nat.ble_eq_true_of_le (by omega);have b3:Nat.ble n 9223372036854775807=true:=Nat.ble_eq_true_of_le (by omega);have b1:Nat.ble 0 n=true:=Nat.ble_eq_true_of_le (by omega);show cond (Nat.ble 0 n&&Nat.ble (bytes*n) 140737488355328&&Nat.ble n 9223372036854775807) (some (ck.cells (bR zs n) true 0,fun b=>AV.sl b 0 0 n false)) none=_;rw[b1,b2,b3];rfl
def MO(k kw n:Nat)(L:List Pt)(w:List Bool)(j:Nat):List (Nat×AV):=[(1,.fz kw (gG w)),(8,.sl 0 0 (cR L w j).length n false),(9,.sl 1 0 (nj w j).length n false),(30,.fz k (pts L)),(31,.int .i64 (L.length:Nat)),(32,.int .i64 ((j:Nat):Int))]
theorem Ao{k kw n j:Nat}{L:List Pt}{w:List Bool}{S:List Pt}{I:List Int}{e1:Env}{h1:Heap}(mG:Tr.get e1 1=some (.fz kw (gG w)))(e8:Tr.get e1 8=some (.sl 0 0 S.length n false))(e9:Tr.get e1 9=some (.sl 1 0 I.length n false))
  (e30:Tr.get e1 30=some (.fz k (pts L)))(e31:Tr.get e1 31=some (.int .i64 (L.length:Nat)))(e32:Tr.get e1 32=some (.int .i64 ((j:Nat):Int)))(hS:cR L w j=S)(hI:nj w j=I)(g0:h1.get 0=some (.cells (gP n S) true 0))(g1:h1.get 1=some (.cells (gI n I) true 0)):
  GC 0 id e1 h1 (ek 6 (MO k kw n L w j)) (vI n (cR L w j) (nj w j)):=by
 subst hS hI;exact Oq id ⟨⟨_,mG,.cl (by simp[AV.cl,lg])⟩,⟨_,e8,.sl (by omega)⟩,⟨_,e9,.sl (by omega)⟩,⟨_,e30,.cl (by simp[AV.cl,aS])⟩,⟨_,e31,.cl rfl⟩,⟨_,e32,.cl rfl⟩,trivial⟩ (bf ⟨_,g0,aX rfl (Nd _ _)⟩) (bf ⟨_,g1,aX rfl (Nb _ _)⟩) aZ (by decide) (by decide) (by decide) (by intro b hb;omega) (by omega)
def Ki(m n j:Nat):List (Nat×AV):=[(8,.sl 0 0 m n false),(55,.sl 1 0 m n false),(56,.int .i64 (m:Nat)),(57,.int .i64 ((j:Nat):Int))]
theorem Fi{n j m:Nat}{S:List Pt}{I:List Int}{e1:Env}{h1:Heap}(e8:Tr.get e1 8=some (.sl 0 0 m n false))(e55:Tr.get e1 55=some (.sl 1 0 m n false))(e56:Tr.get e1 56=some (.int .i64 (m:Nat)))(e57:Tr.get e1 57=some (.int .i64 ((j:Nat):Int)))
  (g0:h1.get 0=some (.cells (gP n S) true 0))(g1:h1.get 1=some (.cells (gI n I) true 0)):GC 0 id e1 h1 (ek 6 (Ki m n j)) (vI n S I):=
 Oq id ⟨⟨_,e8,.sl (by omega)⟩,⟨_,e55,.sl (by omega)⟩,⟨_,e56,.cl rfl⟩,⟨_,e57,.cl rfl⟩,trivial⟩ (bf ⟨_,g0,aX rfl (Nd _ _)⟩) (bf ⟨_,g1,aX rfl (Nb _ _)⟩) aZ (by decide) (by decide) (by decide) (by intro b hb;omega) (by omega)
theorem yl{L:List Pt}(h:mc L=true):1≤L.length∧L.length≤4:=by
 simp only[mc,Bool.and_eq_true,decide_eq_true_eq] at h;omega
theorem lu(k kw:Nat)(L:List Pt)(w:List Bool)(hs:Small L):PC fs ms 16 [cfg k L,.fz kw (gG w)] (NP (gn L w)):=by
 refine bq (by simp[bn,qW,AV.cl,lg]) rfl ?_;refine iZ (af:=Qc) rfl (Nat.le_of_ble_eq_true rfl) ?_;generalize hQ:(fun(v:AV) (_:Heap)=>v=NP (gn L w))=Q;conv=>whnf
 refine iY false ?_;conv=>whnf
 refine iq [0] (i:=2) (v':=.fp [.fz k (pts L),.aq] 0) rfl (.ptr' (by simp) rfl (.clean (by simp[cfg,AV.cells,bn,AV.cl,aS]))) ?_;refine dy 5 [(1,.fz kw (gG w)),(2,.fp [.fz k (pts L),.aq] 0)] ?_ ?_
 ·exact⟨⟨_,rfl,.cl (by simp[AV.cl,lg])⟩,⟨_,rfl,.cl (by simp[AV.cl,bn,aS])⟩,trivial⟩
 have xJ:=Ez k kw L w hs;have hG:gn L w=if dO L w≠0 then(0,0,dO L w)
  else if iU (cR L w L.length)≠0 then(-1,0,iU (cR L w L.length))
  else match b9 (fun i=>!((cB (cR L w L.length) ((i:Nat):Int)).2==0)) 0 (cR L w L.length).length with
   |none=>(-1,0,0)
   |some i=>(Cx w L.length i,(cB (cR L w L.length) ((i:Nat):Int)).1,(cB (cR L w L.length) ((i:Nat):Int)).2):=rfl
 refine bg (z:=false) ?_;conv=>whnf
 refine ai xJ ?_;conv=>whnf
 by_cases h0:dO L w=0
 case neg=>
  refine fP (by simpa using h0) (fun hc=>?_)
  (try rw[hc])
  conv=>whnf
  subst hQ;rw[hG,if_pos h0];rfl
 refine fO (by simpa using h0) (fun hc=>?_)
 (try rw[hc])
 conv=>whnf
 rw[if_neg (by omega)] at hG;have iL:mc L=true∧w.length=L.length:=by
  unfold dO at h0;split at h0
  ·rename_i h1;split at h0
   ·rename_i h2;exact⟨h1,h2⟩
   ·omega
  ·omega
 obtain⟨Iq,G0⟩:=iL;have hlen:=yl Iq;rw[dQ,G0];refine⟨_,_,E7 (by omega) (by omega),?_⟩;conv=>whnf
 rw[dQ,G0];refine⟨_,_,E7 (by omega) (by omega),?_⟩;conv=>whnf
 refine iX (Ao (k:=k) (kw:=kw) (n:=L.length) (L:=L) (w:=w) (j:=0) (S:=[]) (I:=[]) rfl rfl rfl rfl ((show _=some (AV.int .i64 ((pts L).length:Nat)) from rfl).trans (by rw[bL])) rfl rfl rfl rfl rfl) ?_;refine gk 0 6 L.length (fun _=>True) (MO k kw L.length L w) (fun j=>vI L.length (cR L w j) (nj w j)) (fun j hj _=>?_) (fun _=>?_) trivial
 ·have Qr:j<w.length:=by omega
  have O5:=sI G0 j (by omega);have hyes:=lP hj Qr;have hno:=qm hj Qr;have hyj:=Ce Qr;have hnj:=Fk Qr;have r7:=lD (k:=k) hj;have Ma:=I4 (k:=kw) Qr;have hE:MO k kw L.length L w j=[(1,.fz kw (gG w)),(8,.sl 0 0 (cR L w j).length L.length false),(9,.sl 1 0 (nj w j).length L.length false),(30,.fz k (pts L)),(31,.int .i64 (L.length:Nat)),(32,.int .i64 ((j:Nat):Int))]:=rfl;rw[hE];generalize cR L w j=S at*;generalize nj w j=I at*;generalize L[j]=x at*;generalize w[j]=b at*;have F6:gP L.length S=ah (pts S)++RP L.length S.length:=rfl;have VP:gI L.length I=ah (ints I)++RI L.length I.length:=rfl;have VR:gP L.length (S++[x])=ah (pts S++[pt x])++(RP L.length S.length).drop 3:=by
   rw[Lr,gP,List.length_append];simp[pts]
  have VQ:gI L.length (I++[((j:Nat):Int)])=ah (ints I++[.int .i64 ((j:Nat):Int)])++(RI L.length I.length).drop 1:=by
   rw[Lq,gI,List.length_append];simp[ints]
  generalize hn:L.length=n at*;show kX fs ms 0 false false _ _ ⟨3,.node (.node .nil (some (.cells (gI n I) true 0)) .nil) (some (.cells (gP n S) true 0)) (.node .nil none .nil)⟩ _;conv=>whnf
  refine fP (by simp;omega) (fun hc=>?_)
  (try rw[hc])
  conv=>whnf
  refine⟨_,r7,?_⟩;conv=>whnf
  refine⟨_,Ma,?_⟩;conv=>whnf
  cases b with
  |false=>
   conv=>whnf
   exact⟨trivial,id,Ao rfl rfl rfl rfl (by rw[hn];rfl) (au (by omega)) (hno rfl) (hnj rfl) rfl rfl⟩
  |true=>
   conv=>whnf
   refine⟨_,_,Ht (l:=pts S) (rest:=RP n S.length) (y:=pt x) rfl F6 (sM S) (bL S).symm (by omega) (NY _ _) rfl rfl rfl,?_⟩;conv=>whnf
   refine⟨_,_,Ht (l:=ints I) (rest:=RI n I.length) (y:=.int .i64 ((j:Nat):Int)) rfl VP (jA I) (aT I).symm (by omega) (NX _ _) rfl rfl rfl,?_⟩;conv=>whnf
   rw[←VR,←VQ];refine⟨trivial,id,Ao rfl ?_ ?_ rfl (by rw[hn];rfl) (au (by omega)) (hyes rfl) (hyj rfl) rfl rfl⟩
   ·rw[List.length_append];rfl
   ·rw[List.length_append];rfl
 have O5:=sI G0 L.length (Nat.le_refl _);have hmem:∀x,x∈cR L w L.length→x∈L:=fun x hx=>pn hx;have BN:∀i,Cx w L.length i=(nj w L.length).getD i 0:=fun i=>rfl;rw[show MO k kw L.length L w L.length=[(1,.fz kw (gG w)),(8,.sl 0 0 (cR L w L.length).length L.length false),(9,.sl 1 0 (nj w L.length).length L.length false),(30,.fz k (pts L)),(31,.int .i64 (L.length:Nat)),(32,.int .i64 ((L.length:Nat):Int))] from rfl];generalize cR L w L.length=S at*;generalize nj w L.length=I at*;have Xo:Small S:=⟨by have:=hs.1;omega,fun x hx=>hs.2 x (hmem x hx)⟩;have hst:=Ck 0 S Xo;have hlt:=fun a=>Mt 0 S a Xo;rw[O5.2];generalize L.length=n at*;obtain⟨m,hm⟩:∃m,S.length=m:=⟨_,rfl⟩;rw[hm] at hG O5⊢;have F6:gP n S=ah (pts S)++RP n S.length:=rfl;have VP:gI n I=ah (ints I)++RI n I.length:=rfl;have hfz:∀h:Heap,h.get 0=some (.cells (gP n S) true 0)→kz (fun _=>True) h (.sl 0 0 m n false) (.fz 0 (pts S)):=fun h hh=>EM (s:=3) trivial hh F6 (sM _) (by rw[bL,hm]) (by omega) (aS _);have hid:∀i,i<m→(gI n I)[i]?=some (.int .i64 (Cx w n i)):=by
  intro i hi;rw[VP,BN,mY,List.getElem?_append_left (by rw[aT];omega),ints,List.getElem?_map,List.getElem?_eq_getElem (by omega),List.getD_eq_getElem?_getD,List.getElem?_eq_getElem (by omega)];rfl
 refine fK (z:=false) ?_;show kX fs ms 0 false false _ _ ⟨3,.node (.node .nil (some (.cells (gI n I) true 0)) .nil) (some (.cells (gP n S) true 0)) (.node .nil none .nil)⟩ _;conv=>whnf
 refine fO (by simp) (fun hc=>?_)
 (try rw[hc])
 conv=>whnf
 refine ja hst rfl (.cons (hfz _ rfl) .nil) ?_;conv=>whnf
 by_cases hsh:iU S=0
 case neg=>
  refine fP (by simpa using hsh) (fun hc=>?_)
  (try rw[hc])
  conv=>whnf
  subst hQ;rw[hG,if_pos hsh];rfl
 refine fO (by simpa using hsh) (fun hc=>?_)
 (try rw[hc])
 conv=>whnf
 rw[if_neg (by omega)] at hG;refine iX (Fi (m:=m) (n:=n) (j:=0) (S:=S) (I:=I) rfl rfl rfl rfl rfl rfl) ?_;have hbody:∀(K:AX→Env→Heap→Prop) j,j<m→((cB S ((j:Nat):Int)).2=0→∀e1 h1,GC 0 id e1 h1 (ek 6 (Ki m n (j+1))) (vI n S I)→K .normal e1 h1)→((cB S ((j:Nat):Int)).2≠0→∀e1 h1,iS e1 h1 Qc.results=some [.int .i64 (Cx w n j),.int .i64 (cB S ((j:Nat):Int)).1,.int .i64 (cB S ((j:Nat):Int)).2]→K .ret e1 h1)→
   kX fs ms 0 false false qC (ek 6 (Ki m n j)) (vI n S I) K:=by
  intro K j hj k1 k2;have ht:=hlt ((j:Nat):Int);have hi:=hid j hj;generalize cB S ((j:Nat):Int)=T at*;obtain⟨T1,T2⟩:=T;show kX fs ms 0 false false _ (ek 6 [(8,.sl 0 0 m n false),(55,.sl 1 0 m n false),(56,.int .i64 (m:Nat)),(57,.int .i64 ((j:Nat):Int))]) ⟨3,.node (.node .nil (some (.cells (gI n I) true 0)) .nil) (some (.cells (gP n S) true 0)) (.node .nil none .nil)⟩ _;conv=>whnf
  refine fP (by simp;omega) (fun hc=>?_)
  (try rw[hc])
  conv=>whnf
  refine⟨_,eU (by omega),?_⟩;conv=>whnf
  refine dX (qz rfl hi) ?_;conv=>whnf
  refine ja (v:=.cC [.int .i64 T1,.int .i64 T2]) ht rfl (.cons (hfz _ rfl) (.cons (.clean rfl) .nil)) ?_;conv=>whnf
  by_cases h2:T2=0
  ·refine fO (by simpa using h2) (fun hc=>?_)
   (try rw[hc])
   conv=>whnf
   exact k1 h2 _ _ (Fi rfl rfl rfl (au (by omega)) rfl rfl)
  ·refine fP (by simpa using h2) (fun hc=>?_)
   (try rw[hc])
   conv=>whnf
   exact k2 h2 _ _ rfl
 cases mh:b9 (fun i=>!((cB S ((i:Nat):Int)).2==0)) 0 m with
 |none=>
  rw[mh] at hG;have hno:∀j,j<m→(cB S ((j:Nat):Int)).2=0:=fun j hj=>by have:=ef mh j hj;rw[Nat.zero_add] at this;simpa using this
  refine gk 0 6 m (fun _=>True) (Ki m n) (fun _=>vI n S I) (fun j hj _=>hbody _ j hj (fun _ e1 h1 hg=>⟨trivial,id,hg⟩) (fun he=>absurd (hno j hj) he)) (fun _=>?_) trivial;refine fK (z:=false) ?_;show kX fs ms 0 false false _ (ek 6 [(8,.sl 0 0 m n false),(55,.sl 1 0 m n false),(56,.int .i64 (m:Nat)),(57,.int .i64 ((m:Nat):Int))]) ⟨3,.node (.node .nil (some (.cells (gI n I) true 0)) .nil) (some (.cells (gP n S) true 0)) (.node .nil none .nil)⟩ _;conv=>whnf
  refine fO (by simp) (fun hc=>?_)
  (try rw[hc])
  conv=>whnf
  subst hQ;rw[hG];rfl
 |some u=>
  rw[mh] at hG;obtain⟨u1,u2,u3,u4⟩:=dH mh;have hok:∀j,j<u→(cB S ((j:Nat):Int)).2=0:=fun j hj=>by simpa using u4 j (by omega) hj
  have Im:(cB S ((u:Nat):Int)).2≠0:=by simpa using u3
  refine gk 0 6 u (fun _=>True) (Ki m n) (fun _=>vI n S I) (fun j hj _=>hbody _ j (by omega) (fun _ e1 h1 hg=>⟨trivial,id,hg⟩) (fun he=>absurd (hok j hj) he)) (fun _=>?_) trivial;refine fK (z:=false) (hbody _ u (by omega) (fun he=>absurd he Im) (fun _ e1 h1 hr=>?_));show Bf Qc.results Q .ret e1 h1;subst hQ;simp only[Bf,hr];rw[hG];rfl
end Ir
end Go.Proofs.Ytecdcefacdodgaa
set_option maxRecDepth 100000
set_option linter.unusedSimpArgs false
set_option linter.unusedVariables false
namespace Go.Proofs.Ytecdcefacdodgaa
open Go Ads
namespace Ir
def I8(L:List Pt)(w:List Bool)(i:Nat):Int:=if dO L w≠0 then dO L w else(gn L (w.set i true)).2.2
theorem rX:∀l:List Bool,ah (gG l)=gG l
 |[]=>rfl
 |x::l=>by
  show AV.bool x::ah (gG l)=_;rw[rX l];rfl
theorem yC:∀l:List Bool,bY (gG l)=true
 |[]=>rfl
 |x::l=>by
  show cond (AV.bool x).flat (bY (gG l)) false=true;exact yC l
theorem Oo(k kw:Nat)(L:List Pt)(w:List Bool)(i:Nat)(hs:Small L)(hi:i<w.length):PC fs ms 22 [cfg k L,.fz kw (gG w),.int .i64 (i:Nat)] (.int .i64 (I8 L w i)):=by
 refine bq (by simp[bn,qW,AV.cl,lg]) rfl ?_;refine iZ (af:=S6) rfl (Nat.le_of_ble_eq_true rfl) ?_;generalize hQ:(fun(v:AV) (_:Heap)=>v=.int .i64 (I8 L w i))=Q;conv=>whnf
 refine iY false ?_;conv=>whnf
 refine iq [0] (i:=3) (v':=.fp [.fz k (pts L),.aq] 0) rfl (.ptr' (by simp) rfl (.clean (by simp[cfg,AV.cells,bn,AV.cl,aS]))) ?_;refine dy 5 [(1,.fz kw (gG w)),(2,.int .i64 (i:Nat)),(3,.fp [.fz k (pts L),.aq] 0)] ?_ ?_
 ·exact⟨⟨_,rfl,.cl (by simp[AV.cl,lg])⟩,⟨_,rfl,.cl rfl⟩,⟨_,rfl,.cl (by simp[AV.cl,bn,aS])⟩,trivial⟩
 have xJ:=Ez k kw L w hs;have hJ:I8 L w i=if dO L w≠0 then dO L w else(gn L (w.set i true)).2.2:=rfl;refine bg (z:=false) ?_;conv=>whnf
 refine ai xJ ?_;conv=>whnf
 by_cases h0:dO L w=0
 case neg=>
  refine fP (by simpa using h0) (fun hc=>?_)
  (try rw[hc])
  conv=>whnf
  subst hQ;rw[hJ,if_pos h0]
 refine fO (by simpa using h0) (fun hc=>?_)
 (try rw[hc])
 conv=>whnf
 rw[if_neg (by omega)] at hJ;have iL:mc L=true∧w.length=L.length:=by
  unfold dO at h0;split at h0
  ·rename_i h1;split at h0
   ·rename_i h2;exact⟨h1,h2⟩
   ·omega
  ·omega
 obtain⟨Iq,G0⟩:=iL;have hlen:=yl Iq;refine fO (by rw[dQ];simp;omega) (fun hc=>?_)
 (try rw[hc])
 conv=>whnf
 refine⟨_,rfl,?_⟩;conv=>whnf
 have hg:=lu k 0 L (w.set i true) hs;generalize gn L (w.set i true)=g at*;obtain⟨ga,gb,gc⟩:=g;obtain⟨n,hn⟩:∃n,w.length=n:=⟨_,rfl⟩;obtain⟨R,hR⟩:∃R:List AV,R=List.drop n [.bool false,.bool false,.bool false,.bool false]:=⟨_,rfl⟩;have hRl:R.length=4-n:=by rw[hR];simp
 refine⟨.int .i64 (n:Nat),⟨1,.node .nil (some (.cells (gG w++R) true 0)) .nil⟩,?_,?_⟩
 ·have h1:jj 1 ⟨1,.node .nil (some (.cells [.bool false,.bool false,.bool false,.bool false] true 0)) .nil⟩ (.fz kw (gG w))=some (n,gG w):=by
   simp only[jj,wQ,cond_true,dQ,rX,hn]
  have h2:Heap.cJ ⟨1,.node .nil (some (.cells [.bool false,.bool false,.bool false,.bool false] true 0)) .nil⟩ 0 0 ((gG w).take (min n 4*1))=some ⟨1,.node .nil (some (.cells (gG w++R) true 0)) .nil⟩:=by
   have hm:(gG w).take (min n 4*1)=gG w:=by rw[List.take_of_length_le (by rw[dQ];omega)]
   have hb:Nat.ble (0+(gG w).length) [AV.bool false,.bool false,.bool false,.bool false].length=true:=Nat.ble_eq_true_of_le (by rw[dQ];simp;omega);have hsp:Heap.splice [AV.bool false,.bool false,.bool false,.bool false] 0 (gG w)=gG w++R:=by
    rw[pF _ _ (by rw[dQ];simp;omega),hR,dQ,hn]
   rw[hm];show cond (Nat.ble (0+(gG w).length) [AV.bool false,.bool false,.bool false,.bool false].length&&bY (gG w)) (some (Heap.set ⟨1,.node .nil (some (.cells [.bool false,.bool false,.bool false,.bool false] true 0)) .nil⟩ 0 (.cells (Heap.splice [AV.bool false,.bool false,.bool false,.bool false] 0 (gG w)) true 0))) none=_;rw[hb,yC,hsp];rfl
  show(match jj 1 _ (.fz kw (gG w)) with|none=>none|some (n,new)=>_)=_;rw[h1];show(Heap.cJ _ 0 0 ((gG w).take (min n 4*1))).map _=_;rw[h2];show some (AV.int .i64 (min ((n:Nat):Int) ((4:Nat):Int)),_)=_;rw[show min ((n:Nat):Int) ((4:Nat):Int)=((n:Nat):Int) by omega]
 conv=>whnf
 refine⟨.ptr 0 i,?_,?_⟩
 ·have b1:Nat.ble (i+1) 4=true:=Nat.ble_eq_true_of_le (by omega);show cond (Nat.ble (i+1) 4) (some (AV.ptr 0 (0+i*1))) none=_;rw[b1,Nat.mul_one,Nat.zero_add];rfl
 conv=>whnf
 have hsp:Heap.splice (gG w++R) i [.bool true]=ah (gG (w.set i true))++R:=by
  rw[kU _ _ _ (by rw[List.length_append,dQ];omega),List.set_append_left _ _ (by rw[dQ];omega),rX,gG,gG,List.map_set]
 refine CU (by show(Nat.ble (i+1) (gG w++R).length&&true)=true;rw[Bool.and_true];exact Nat.ble_eq_true_of_le (by rw[List.length_append,dQ];omega)) ?_;conv=>whnf
 refine⟨.sl 0 0 n 4 false,?_,?_⟩
 ·have b1:Nat.ble 0 n=true:=Nat.ble_eq_true_of_le (by omega);have b2:Nat.ble n 4=true:=Nat.ble_eq_true_of_le (by omega);have b3:bounds 4 4 false true false [.int .i64 (n:Nat)]=some (0,n,4):=by
   show cond (Nat.ble 0 n&&Nat.ble n 4&&Nat.ble 4 4) _ _=_;rw[b1,b2];rfl
  rw[dQ,hn];show(match bounds 4 4 false true false [.int .i64 (n:Nat)] with|some (l,h,mm)=>some (AV.sl 0 (0+cond (Nat.beq mm l) 0 (l*1)) (h-l) (mm-l) false)|none=>none)=_;rw[b3];rfl
 conv=>whnf
 refine ja (v:=.cC [.int .i64 ga,.int .i64 gb,.int .i64 gc]) hg rfl (.cons (.clean (qW k L)) (.cons (EM (s:=1) trivial rfl hsp (wQ _) (by rw[dQ,List.length_set,hn]) (by omega) (lg _)) .nil)) ?_;conv=>whnf
 refine⟨_,rfl,?_⟩;conv=>whnf
 have hYl:(Heap.splice (gG w++R) i [.bool true]).length=4:=by
  rw[hsp,List.length_append,rX,dQ,List.length_set];omega
 refine⟨.undef,⟨1,.node .nil (some (.cells (Heap.splice (Heap.splice (gG w++R) i [.bool true]) 0 [.bool false,.bool false,.bool false,.bool false]) true 0)) .nil⟩,?_,?_⟩
 ·show(Heap.cJ ⟨1,.node .nil (some (.cells (Heap.splice (gG w++R) i [.bool true]) true 0)) .nil⟩ 0 0 [.bool false,.bool false,.bool false,.bool false]).map (fun h=>(AV.undef,h))=_;generalize Heap.splice (gG w++R) i [.bool true]=Y at*;have hb:Nat.ble 4 Y.length=true:=Nat.ble_eq_true_of_le (by omega);show(cond (Nat.ble 4 Y.length&&true) (some _) none:Option Heap).map _=_;rw[hb];rfl
 conv=>whnf
 subst hQ;rw[hJ]
end Ir
end Go.Proofs.Ytecdcefacdodgaa
