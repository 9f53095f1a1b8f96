/-
  What a configuration may be: the program's answer and the document's. What a configuration may be, by the document; copies. A configuration's copy; whether two are the same. A configuration is the same as its copy.
-/
import Derived.Test.YtepdklcpagielaaVDel
import Derived.Test.YtepdklcpagielaaZA
import Derived.Test.YtepdklcpagielaaVsX
import Derived.Test.YtepdklcpagielaaVJf
set_option maxRecDepth 100000
set_option linter.unusedSimpArgs false
set_option linter.unusedVariables false
namespace Go.Proofs.Ytepdklcpagielaa
open Go Ads
namespace Ir
structure Po where
 k:Int
 f:Int
 t:Int
 s:Int
 d:Int
 a:Int
def po(x:Po):AV:=.agg [.int .i64 x.k,.int .i64 x.f,.int .i64 x.t,.int .i64 x.s,.int .i64 x.d,.int .i64 x.a]
def pos(l:List Po):List AV:=l.map po
theorem fk(l:List Po):bL (pos l)=true:=pZ (enc:=po) (fun _=>rfl) l
theorem kG(l:List Po):(pos l).length=l.length:=List.length_map ..
theorem size_pos(l:List Po):aW 6 (pos l)=true:=ew (enc:=po) (fun _=>rfl) l
theorem wG{l:List Po}{j k:Nat}(hj:j<l.length):pV (.aE 6) [.fz k (pos l),.int .i64 (j:Nat)]=some (.fp (po l[j]).cells 0):=vf (enc:=po) hj rfl
theorem S3{F:Nat}{aN:List AV}{p:Pt→Bool}(k:Nat)(l:List Pt)(hl:l.length<2^62)(hcap:bL aN=true)(hp:∀m,m∈l→PC fs ms F (pt m::aN) (.bool (p m))):
  ∃n:Int,PC fs ms 79 [.fz k (pts l),.func (.func F) [] aN] (.int .i64 n)∧decide (n≥0)=l.any p:=by
 by_cases ha:l.any p=true
 ·obtain⟨j,hj,h1,h2⟩:=ng (l:=l) (p:=fun m=>p m=true) (by simpa using ha);refine⟨(j:Nat),?_,by rw[ha];simp⟩;refine aX (by simp[bL,AV.cl,bz,hcap]) rfl ?_;refine aC (af:=UJ) false rfl (Nat.le_of_ble_eq_true rfl) ?_;generalize hQ:(fun(v:AV) (_:Heap)=>v=.int .i64 (j:Nat))=Q;conv=>whnf
  refine ei 5 [(0,.fz k (pts l)),(1,.func (.func F) [] aN),(7,.int .i64 (pts l).length),(8,.int .i64 ((0:Nat):Int))] (by repeat' (first|exact trivial|refine bI rfl (by omega) ?_|refine bg rfl (by omega) ?_|refine aR rfl (by omega) ?_|refine aJ rfl (by first|rfl|simp[bL,AV.cl,aS,bz,hcap]) ?_|refine aJ (ay (by omega)) rfl ?_)) ?_;refine fe 5 j (fun _=>True) (fun i=>[(0,.fz k (pts l)),(1,.func (.func F) [] aN),(7,.int .i64 (pts l).length),(8,.int .i64 (i:Nat))]) ?_ ?_ trivial
  ·intro i hi _;conv=>whnf
   refine br (fun hc=>?_) (fun hc=>?_)<;>(try rw[hc])<;>(conv=>whnf)
   ·refine⟨_,gH (by omega),?_⟩;conv=>whnf
    refine au (hp _ (List.getElem_mem _)) ?_;conv=>whnf
    refine br (fun hc=>?_) (fun hc=>?_)<;>(try rw[hc])<;>(conv=>whnf)
    ·exact absurd hc (h2 i (by omega) hi)
    ·refine⟨trivial,⟨_,rfl,.cl (by simp[AV.cl,bz])⟩,⟨_,rfl,.cl (by simp[AV.cl,bL,hcap])⟩,⟨_,rfl,.cl rfl⟩,⟨_,ay (by omega),.cl rfl⟩,trivial⟩
   ·exfalso;have:=of_decide_eq_false hc;rw[bh] at this;omega
  ·intro _;conv=>whnf
   refine br (fun hc=>?_) (fun hc=>?_)<;>(try rw[hc])<;>(conv=>whnf)
   ·refine⟨_,gH hj,?_⟩;conv=>whnf
    refine au (hp _ (List.getElem_mem _)) ?_;conv=>whnf
    refine br (fun hc=>?_) (fun hc=>?_)<;>(try rw[hc])<;>(conv=>whnf)
    ·subst hQ;rfl
    ·rw[h1] at hc;simp at hc
   ·exfalso;have:=of_decide_eq_false hc;rw[bh] at this;omega
 ·have hn:∀m,m∈l→p m=false:=by
   intro m hm;rw[Bool.eq_false_iff];intro h;exact ha (List.any_eq_true.2 ⟨m,hm,h⟩)
  refine⟨-1,?_,by rw[Bool.eq_false_iff.2 ha];decide⟩;refine aX (by simp[bL,AV.cl,bz,hcap]) rfl ?_;refine aC (af:=UJ) false rfl (Nat.le_of_ble_eq_true rfl) ?_;generalize hQ:(fun(v:AV) (_:Heap)=>v=.int .i64 (-1))=Q;conv=>whnf
  refine ei 5 [(0,.fz k (pts l)),(1,.func (.func F) [] aN),(7,.int .i64 (pts l).length),(8,.int .i64 ((0:Nat):Int))] (by repeat' (first|exact trivial|refine bI rfl (by omega) ?_|refine bg rfl (by omega) ?_|refine aR rfl (by omega) ?_|refine aJ rfl (by first|rfl|simp[bL,AV.cl,aS,bz,hcap]) ?_|refine aJ (ay (by omega)) rfl ?_)) ?_;refine fe 5 l.length (fun _=>True) (fun i=>[(0,.fz k (pts l)),(1,.func (.func F) [] aN),(7,.int .i64 (pts l).length),(8,.int .i64 (i:Nat))]) ?_ ?_ trivial
  ·intro i hi _;conv=>whnf
   refine br (fun hc=>?_) (fun hc=>?_)<;>(try rw[hc])<;>(conv=>whnf)
   ·refine⟨_,gH (by omega),?_⟩;conv=>whnf
    refine au (hp _ (List.getElem_mem _)) ?_;conv=>whnf
    refine br (fun hc=>?_) (fun hc=>?_)<;>(try rw[hc])<;>(conv=>whnf)
    ·rw[hn _ (List.getElem_mem hi)] at hc;simp at hc
    ·refine⟨trivial,⟨_,rfl,.cl (by simp[AV.cl,bz])⟩,⟨_,rfl,.cl (by simp[AV.cl,bL,hcap])⟩,⟨_,rfl,.cl rfl⟩,⟨_,ay (by omega),.cl rfl⟩,trivial⟩
   ·exfalso;have:=of_decide_eq_false hc;rw[bh] at this;omega
  ·intro _;conv=>whnf
   refine br (fun hc=>?_) (fun hc=>?_)<;>(try rw[hc])<;>(conv=>whnf)
   ·exfalso;have:=of_decide_eq_true hc;rw[bh] at this;omega
   ·subst hQ;rfl
theorem U0{F:Nat}{aN:List AV}{p:Pt→Bool}(k:Nat)(l:List Pt)(hl:l.length<2^62)(hcap:bL aN=true)(hp:∀m,m∈l→PC fs ms F (pt m::aN) (.bool (p m))):
  PC fs ms 56 [.fz k (pts l),.func (.func F) [] aN] (.bool (l.any p)):=by
 obtain⟨n,c1,c2⟩:=S3 k l hl hcap hp;refine aX (by simp[bL,AV.cl,bz,hcap]) rfl ?_;refine aC (af:=XU) false rfl (Nat.le_of_ble_eq_true rfl) ?_;generalize hQ:(fun(v:AV) (_:Heap)=>v=.bool (l.any p))=Q;conv=>whnf
 refine au c1 ?_;conv=>whnf
 subst hQ;exact congrArg AV.bool c2
theorem S2{F:Nat}{aN:List AV}{p:Po→Bool}(k:Nat)(l:List Po)(hl:l.length<2^62)(hcap:bL aN=true)(hp:∀m,m∈l→PC fs ms F (po m::aN) (.bool (p m))):
  ∃n:Int,PC fs ms 83 [.fz k (pos l),.func (.func F) [] aN] (.int .i64 n)∧decide (n≥0)=l.any p:=by
 by_cases ha:l.any p=true
 ·obtain⟨j,hj,h1,h2⟩:=ng (l:=l) (p:=fun m=>p m=true) (by simpa using ha);refine⟨(j:Nat),?_,by rw[ha];simp⟩;refine aX (by simp[bL,AV.cl,fk,hcap]) rfl ?_;refine aC (af:=UK) false rfl (Nat.le_of_ble_eq_true rfl) ?_;generalize hQ:(fun(v:AV) (_:Heap)=>v=.int .i64 (j:Nat))=Q;conv=>whnf
  refine ei 5 [(0,.fz k (pos l)),(1,.func (.func F) [] aN),(7,.int .i64 (pos l).length),(8,.int .i64 ((0:Nat):Int))] (by repeat' (first|exact trivial|refine bI rfl (by omega) ?_|refine bg rfl (by omega) ?_|refine aR rfl (by omega) ?_|refine aJ rfl (by first|rfl|simp[bL,AV.cl,aS,fk,hcap]) ?_|refine aJ (ay (by omega)) rfl ?_)) ?_;refine fe 5 j (fun _=>True) (fun i=>[(0,.fz k (pos l)),(1,.func (.func F) [] aN),(7,.int .i64 (pos l).length),(8,.int .i64 (i:Nat))]) ?_ ?_ trivial
  ·intro i hi _;conv=>whnf
   refine br (fun hc=>?_) (fun hc=>?_)<;>(try rw[hc])<;>(conv=>whnf)
   ·refine⟨_,wG (by omega),?_⟩;conv=>whnf
    refine au (hp _ (List.getElem_mem _)) ?_;conv=>whnf
    refine br (fun hc=>?_) (fun hc=>?_)<;>(try rw[hc])<;>(conv=>whnf)
    ·exact absurd hc (h2 i (by omega) hi)
    ·refine⟨trivial,⟨_,rfl,.cl (by simp[AV.cl,fk])⟩,⟨_,rfl,.cl (by simp[AV.cl,bL,hcap])⟩,⟨_,rfl,.cl rfl⟩,⟨_,ay (by omega),.cl rfl⟩,trivial⟩
   ·exfalso;have:=of_decide_eq_false hc;rw[kG] at this;omega
  ·intro _;conv=>whnf
   refine br (fun hc=>?_) (fun hc=>?_)<;>(try rw[hc])<;>(conv=>whnf)
   ·refine⟨_,wG hj,?_⟩;conv=>whnf
    refine au (hp _ (List.getElem_mem _)) ?_;conv=>whnf
    refine br (fun hc=>?_) (fun hc=>?_)<;>(try rw[hc])<;>(conv=>whnf)
    ·subst hQ;rfl
    ·rw[h1] at hc;simp at hc
   ·exfalso;have:=of_decide_eq_false hc;rw[kG] at this;omega
 ·have hn:∀m,m∈l→p m=false:=by
   intro m hm;rw[Bool.eq_false_iff];intro h;exact ha (List.any_eq_true.2 ⟨m,hm,h⟩)
  refine⟨-1,?_,by rw[Bool.eq_false_iff.2 ha];decide⟩;refine aX (by simp[bL,AV.cl,fk,hcap]) rfl ?_;refine aC (af:=UK) false rfl (Nat.le_of_ble_eq_true rfl) ?_;generalize hQ:(fun(v:AV) (_:Heap)=>v=.int .i64 (-1))=Q;conv=>whnf
  refine ei 5 [(0,.fz k (pos l)),(1,.func (.func F) [] aN),(7,.int .i64 (pos l).length),(8,.int .i64 ((0:Nat):Int))] (by repeat' (first|exact trivial|refine bI rfl (by omega) ?_|refine bg rfl (by omega) ?_|refine aR rfl (by omega) ?_|refine aJ rfl (by first|rfl|simp[bL,AV.cl,aS,fk,hcap]) ?_|refine aJ (ay (by omega)) rfl ?_)) ?_;refine fe 5 l.length (fun _=>True) (fun i=>[(0,.fz k (pos l)),(1,.func (.func F) [] aN),(7,.int .i64 (pos l).length),(8,.int .i64 (i:Nat))]) ?_ ?_ trivial
  ·intro i hi _;conv=>whnf
   refine br (fun hc=>?_) (fun hc=>?_)<;>(try rw[hc])<;>(conv=>whnf)
   ·refine⟨_,wG (by omega),?_⟩;conv=>whnf
    refine au (hp _ (List.getElem_mem _)) ?_;conv=>whnf
    refine br (fun hc=>?_) (fun hc=>?_)<;>(try rw[hc])<;>(conv=>whnf)
    ·rw[hn _ (List.getElem_mem hi)] at hc;simp at hc
    ·refine⟨trivial,⟨_,rfl,.cl (by simp[AV.cl,fk])⟩,⟨_,rfl,.cl (by simp[AV.cl,bL,hcap])⟩,⟨_,rfl,.cl rfl⟩,⟨_,ay (by omega),.cl rfl⟩,trivial⟩
   ·exfalso;have:=of_decide_eq_false hc;rw[kG] at this;omega
  ·intro _;conv=>whnf
   refine br (fun hc=>?_) (fun hc=>?_)<;>(try rw[hc])<;>(conv=>whnf)
   ·exfalso;have:=of_decide_eq_true hc;rw[kG] at this;omega
   ·subst hQ;rfl
theorem UZ{F:Nat}{aN:List AV}{p:Po→Bool}(k:Nat)(l:List Po)(hl:l.length<2^62)(hcap:bL aN=true)(hp:∀m,m∈l→PC fs ms F (po m::aN) (.bool (p m))):
  PC fs ms 59 [.fz k (pos l),.func (.func F) [] aN] (.bool (l.any p)):=by
 obtain⟨n,c1,c2⟩:=S2 k l hl hcap hp;refine aX (by simp[bL,AV.cl,fk,hcap]) rfl ?_;refine aC (af:=XZ) false rfl (Nat.le_of_ble_eq_true rfl) ?_;generalize hQ:(fun(v:AV) (_:Heap)=>v=.bool (l.any p))=Q;conv=>whnf
 refine au c1 ?_;conv=>whnf
 subst hQ;exact congrArg AV.bool c2
def iQ(n a b:Int):Bool:=decide (a≤n)&&decide (n≤b)
theorem lQ{n a b:Int}:iQ n a b=true↔a≤n∧n≤b:=by simp[iQ]
theorem acf{n a b:Int}:iQ n a b=false↔¬(a≤n∧n≤b):=by rw[←Bool.not_eq_true,lQ]
theorem fF(n a b:Int):PC fs ms 62 [.int .i64 n,.int .i64 a,.int .i64 b] (.bool (iQ n a b)):=by
 refine aX rfl rfl ?_;refine aC (af:=X7) false rfl (Nat.le_of_ble_eq_true rfl) ?_;generalize hQ:(fun(v:AV) (_:Heap)=>v=.bool (iQ n a b))=Q;conv=>whnf
 by_cases h:a≤n
 ·refine kO (by simpa using h) (fun hc=>?_)
  (try rw[hc])
  conv=>whnf
  subst hQ;rw[iQ,decide_eq_true h,Bool.true_and]
 ·refine lY (by simpa using h) (fun hc=>?_)
  (try rw[hc])
  conv=>whnf
  subst hQ;rw[iQ,decide_eq_false h,Bool.false_and]
def rN(t:Tk)(B:Int):Bool:=iQ t.p 1 64&&iQ t.d 1 t.p&&iQ t.w 1 t.d&&iQ t.a 0 255&&iQ t.c 0 4&&!(decide (t.a=0)&&!decide (t.b=0))&&(decide (t.a=0)||iQ t.b 1 t.w)&&
 (if t.c=0 then decide (t.e=0)&&decide (t.f=0) else iQ t.e 1 (min B t.w)&&iQ t.f 1 (t.w/t.e))
theorem JN(t:Tk)(B:Int):PC fs ms 82 [tk t,.int .i64 B] (.bool (rN t B)):=by
 refine aX rfl rfl ?_;refine aC (af:=Yo) false rfl (Nat.le_of_ble_eq_true rfl) ?_;generalize hQ:(fun(v:AV) (_:Heap)=>v=.bool (rN t B))=Q;conv=>whnf
 refine au (fF t.p 1 64) ?_;cases c1:iQ t.p 1 64 with
 |false=>
  conv=>whnf
  subst hQ;simp[rN,c1]
 |true=>
 conv=>whnf
 refine au (fF t.d 1 t.p) ?_;cases c2:iQ t.d 1 t.p with
 |false=>
  conv=>whnf
  subst hQ;simp[rN,c2]
 |true=>
 conv=>whnf
 refine au (fF t.w 1 t.d) ?_;cases c3:iQ t.w 1 t.d with
 |false=>
  conv=>whnf
  subst hQ;simp[rN,c3]
 |true=>
 conv=>whnf
 refine au (fF t.a 0 255) ?_;cases c4:iQ t.a 0 255 with
 |false=>
  conv=>whnf
  subst hQ;simp[rN,c4]
 |true=>
 conv=>whnf
 refine au (fF t.c 0 4) ?_;cases c5:iQ t.c 0 4 with
 |false=>
  conv=>whnf
  subst hQ;simp[rN,c5]
 |true=>
 conv=>whnf
 have h1:=lQ.1 c1;have h2:=lQ.1 c2;have h3:=lQ.1 c3;have hpre:rN t B=(!(decide (t.a=0)&&!decide (t.b=0))&&(decide (t.a=0)||iQ t.b 1 t.w)&&(if t.c=0 then decide (t.e=0)&&decide (t.f=0) else iQ t.e 1 (min B t.w)&&iQ t.f 1 (t.w/t.e))):=by
  simp only[rN,c1,c2,c3,c4,c5,Bool.true_and]
 have hend:∀Q':AV→Heap→Prop,(!(decide (t.a=0)&&!decide (t.b=0))&&(decide (t.a=0)||iQ t.b 1 t.w))=true→rN t B=(if t.c=0 then decide (t.e=0)&&decide (t.f=0) else iQ t.e 1 (min B t.w)&&iQ t.f 1 (t.w/t.e)):=by
  intro _ h;rw[hpre,h,Bool.true_and]
 have hmn:(bif decide (t.w<B) then t.w else B)=min B t.w:=by
  by_cases h:t.w<B
  ·rw[decide_eq_true h,cond_true];omega
  ·rw[decide_eq_false h,cond_false];omega
 by_cases a0:t.a=0
 ·refine kO (by simpa using a0) (fun hc=>?_)
  (try rw[hc])
  conv=>whnf
  by_cases b0:t.b=0
  ·refine lY (by simpa using b0) (fun hc=>?_)
   (try rw[hc])
   conv=>whnf
   refine lY (by simpa using a0) (fun hc=>?_)
   (try rw[hc])
   conv=>whnf
   have he:=hend Q (by rw[decide_eq_true a0,decide_eq_true b0];rfl);by_cases g0:t.c=0
   ·refine kO (by simpa using g0) (fun hc=>?_)
    (try rw[hc])
    conv=>whnf
    rw[if_pos g0] at he;by_cases e0:t.e=0
    ·refine kO (by simpa using e0) (fun hc=>?_)
     (try rw[hc])
     conv=>whnf
     subst hQ;rw[he,decide_eq_true e0,Bool.true_and];exact congrArg AV.bool (by rw[Bool.eq_iff_iff];simp)
    ·refine lY (by simpa using e0) (fun hc=>?_)
     (try rw[hc])
     conv=>whnf
     subst hQ;rw[he,decide_eq_false e0,Bool.false_and]
   ·refine lY (by simpa using g0) (fun hc=>?_)
    (try rw[hc])
    conv=>whnf
    rw[if_neg g0] at he;rw[hmn];refine au (fF t.e 1 (min B t.w)) ?_;cases c7:iQ t.e 1 (min B t.w) with
    |false=>
     conv=>whnf
     subst hQ;rw[he,c7,Bool.false_and]
    |true=>
     have h7:=lQ.1 c7;conv=>whnf
     refine⟨_,jU _ _ (by omega),?_⟩;conv=>whnf
     rw[show IntKind.i64.wrap (t.w.tdiv t.e)=t.w/t.e from IntWalk.i64_quo _ _ (by omega)];refine au (fF t.f 1 (t.w/t.e)) ?_;conv=>whnf
     subst hQ;rw[he,c7,Bool.true_and]
  ·refine kO (by simpa using b0) (fun hc=>?_)
   (try rw[hc])
   conv=>whnf
   subst hQ;rw[hpre,decide_eq_true a0,decide_eq_false b0];rfl
 ·refine lY (by simpa using a0) (fun hc=>?_)
  (try rw[hc])
  conv=>whnf
  refine kO (by simpa using a0) (fun hc=>?_)
  (try rw[hc])
  conv=>whnf
  refine au (fF t.b 1 t.w) ?_;cases c6:iQ t.b 1 t.w with
  |false=>
   conv=>whnf
   subst hQ;rw[hpre,c6,decide_eq_false a0];rfl
  |true=>
   conv=>whnf
   have he:=hend Q (by rw[c6,decide_eq_false a0];rfl);by_cases g0:t.c=0
   ·refine kO (by simpa using g0) (fun hc=>?_)
    (try rw[hc])
    conv=>whnf
    rw[if_pos g0] at he;by_cases e0:t.e=0
    ·refine kO (by simpa using e0) (fun hc=>?_)
     (try rw[hc])
     conv=>whnf
     subst hQ;rw[he,decide_eq_true e0,Bool.true_and];exact congrArg AV.bool (by rw[Bool.eq_iff_iff];simp)
    ·refine lY (by simpa using e0) (fun hc=>?_)
     (try rw[hc])
     conv=>whnf
     subst hQ;rw[he,decide_eq_false e0,Bool.false_and]
   ·refine lY (by simpa using g0) (fun hc=>?_)
    (try rw[hc])
    conv=>whnf
    rw[if_neg g0] at he;rw[hmn];refine au (fF t.e 1 (min B t.w)) ?_;cases c7:iQ t.e 1 (min B t.w) with
    |false=>
     conv=>whnf
     subst hQ;rw[he,c7,Bool.false_and]
    |true=>
     have h7:=lQ.1 c7;conv=>whnf
     refine⟨_,jU _ _ (by omega),?_⟩;conv=>whnf
     rw[show IntKind.i64.wrap (t.w.tdiv t.e)=t.w/t.e from IntWalk.i64_quo _ _ (by omega)];refine au (fF t.f 1 (t.w/t.e)) ?_;conv=>whnf
     subst hQ;rw[he,c7,Bool.true_and]
theorem Gq(t:Tk)(x:Pt):PC fs ms 81 [tk t,.fp (pt x).cells 0] (.bool (!rN t x.cn)):=by
 refine aX (by simp[bL,AV.cl,pt,AV.cells,cq,tk]) rfl ?_;refine aC (af:=Yn) false rfl (Nat.le_of_ble_eq_true rfl) ?_;generalize hQ:(fun(v:AV) (_:Heap)=>v=.bool (!rN t x.cn))=Q;conv=>whnf
 refine au (JN t x.cn) ?_;conv=>whnf
 subst hQ;rfl
def gy(x:Pt):Bool:=iQ x.cJ 1 64&&iQ x.cn 1 x.cJ&&decide (x.ts.length≤4)&&x.ts.all fun t=>rN t x.cn
theorem Fl{α:Type}(l:List α)(p:α→Bool):(l.any fun x=>!p x)=!l.all p:=by
 induction l with
 |nil=>rfl
 |cons x l ih=>simp only[List.any_cons,List.all_cons,ih,Bool.not_and]
theorem Jm(x:Pt)(hx:x.ts.length≤17592186044416):PC fs ms 58 [pt x] (.bool (gy x)):=by
 refine aX (by simp[bL,DF]) rfl ?_;refine bw (af:=XX) rfl (Nat.le_of_ble_eq_true rfl) ?_;generalize hQ:(fun(v:AV) (_:Heap)=>v=.bool (gy x))=Q;conv=>whnf
 refine aj false ?_;conv=>whnf
 refine dV [0] (i:=1) (v':=.fp (pt x).cells 0) rfl (.ptr' (by simp) rfl (.clean (show bL (pt x).cells=true by simp[pt,AV.cells,bL,AV.cl,cq]))) ?_;refine ei 5 [(1,.fp (pt x).cells 0)] ?_ ?_
 ·exact⟨⟨_,rfl,.cl (by simp[AV.cl,bL,pt,AV.cells,cq])⟩,trivial⟩
 refine aa (z:=false) ?_;have h1:=DE (F:=81) (aN:=[.fp (pt x).cells 0]) (p:=fun t=>!rN t x.cn) x.k x.ts (by omega) (by simp[bL,AV.cl,pt,AV.cells,cq]) (fun m _=>Gq m x);rw[Fl] at h1;conv=>whnf
 refine au (fF x.cJ 1 64) ?_;cases c1:iQ x.cJ 1 64 with
 |false=>
  conv=>whnf
  subst hQ;simp[gy,c1]
 |true=>
 conv=>whnf
 refine au (fF x.cn 1 x.cJ) ?_;cases c2:iQ x.cn 1 x.cJ with
 |false=>
  conv=>whnf
  subst hQ;simp[gy,c1,c2]
 |true=>
 conv=>whnf
 by_cases h4:x.ts.length≤4
 ·refine lY (by rw[bM];simp;omega) (fun hc=>?_)
  (try rw[hc])
  conv=>whnf
  refine au h1 ?_;conv=>whnf
  subst hQ;simp[gy,c1,c2,h4]
 ·refine kO (by rw[bM];simp;omega) (fun hc=>?_)
  (try rw[hc])
  conv=>whnf
  subst hQ;simp[gy,c1,c2,h4]
theorem IB(x:Pt)(hx:x.ts.length≤17592186044416):PC fs ms 57 [pt x] (.bool (!gy x)):=by
 refine aX (by simp[bL,DF]) rfl ?_;refine aC (af:=XV) false rfl (Nat.le_of_ble_eq_true rfl) ?_;generalize hQ:(fun(v:AV) (_:Heap)=>v=.bool (!gy x))=Q;conv=>whnf
 refine au (Jm x hx) ?_;conv=>whnf
 subst hQ;rfl
def uz(o:Po)(n:Int):Bool:=(bif o.k==1 then(o.d==0&&iQ o.a 1 64) else(bif o.k==2 then(o.a==0&&iQ o.d 1 4) else false))&&
 (iQ o.f 0 (IntKind.i64.wrap (n-1))&&(iQ o.t 0 (IntKind.i64.wrap (n-1))&&((o.f !=o.t)&&iQ o.s 1 16)))
theorem Jn(o:Po)(n:Int):PC fs ms 61 [po o,.int .i64 n] (.bool (uz o n)):=by
 refine aX rfl rfl ?_;refine aC (af:=X5) false rfl (Nat.le_of_ble_eq_true rfl) ?_;generalize hQ:(fun(v:AV) (_:Heap)=>v=.bool (uz o n))=Q;conv=>whnf
 iterate 14 (all_goals (first|(refine au (fF _ _ _) ?_;conv=>whnf)|(refine br (fun hc=>?_) (fun hc=>?_)<;>(try rw[hc])<;>(conv=>whnf))|skip))
 all_goals (subst hQ;((try simp only[Bool.not_eq_true',Bool.not_eq_false'] at*);simp only[uz, *]<;>first|rfl|(simp;done)|(simp_all;done)|omega))
theorem IC(o:Po)(k ko:Nat)(L:List Pt)(O:List Po):PC fs ms 60 [po o,.fp [.fz k (pts L),.fz ko (pos O)] 0] (.bool (!uz o (L.length:Nat))):=by
 refine aX (by simp[bL,AV.cl,bz,fk,po]) rfl ?_;refine aC (af:=X4) false rfl (Nat.le_of_ble_eq_true rfl) ?_;generalize hQ:(fun(v:AV) (_:Heap)=>v=.bool (!uz o (L.length:Nat)))=Q;conv=>whnf
 rw[bh];refine au (Jn o _) ?_;conv=>whnf
 subst hQ;rfl
def eT(L:List Pt)(O:List Po):Bool:=L.all gy&&(O.all (fun o=>uz o (L.length:Nat))&&(iQ (L.length:Nat) 1 4&&!decide (((O.length:Nat):Int)>8)))
def cfg(k:Nat)(L:List Pt)(ko:Nat)(O:List Po):AV:=.agg [.fz k (pts L),.fz ko (pos O)]
theorem oK(k:Nat)(L:List Pt)(ko:Nat)(O:List Po):(cfg k L ko O).cl=true:=by simp[cfg,AV.cl,bL,bz,fk]
theorem DH(k:Nat)(L:List Pt)(ko:Nat)(O:List Po)(hs:Small L)(ho:O.length≤17592186044416):PC fs ms 41 [cfg k L ko O] (.int .i64 (if eT L O=true then 0 else 50)):=by
 refine aX (by simp[bL,oK]) rfl ?_;refine bw (af:=XL) rfl (Nat.le_of_ble_eq_true rfl) ?_;generalize hQ:(fun(v:AV) (_:Heap)=>v=.int .i64 (if eT L O=true then 0 else 50))=Q;conv=>whnf
 refine aj false ?_;conv=>whnf
 refine dV [0] (i:=1) (v':=.fp [.fz k (pts L),.fz ko (pos O)] 0) rfl (.ptr' (by simp) rfl (.clean (by simp[cfg,AV.cells,bL,AV.cl,bz,fk]))) ?_;refine ei 5 [(1,.fp [.fz k (pts L),.fz ko (pos O)] 0)] ?_ ?_
 ·exact⟨⟨_,rfl,.cl (by simp[AV.cl,bL,bz,fk])⟩,trivial⟩
 refine aa (z:=false) ?_;have h1:=U0 (F:=57) (aN:=[]) (p:=fun x=>!gy x) k L (by have:=hs.1;omega) rfl (fun m hm=>IB m (hs.2 m hm));have h2:=UZ (F:=60) (aN:=[.fp [.fz k (pts L),.fz ko (pos O)] 0]) (p:=fun o=>!uz o (L.length:Nat)) ko O (by omega) (by simp[AV.cl,bL,bz,fk]) (fun m hm=>IC m k ko L O);rw[Fl] at h1;rw[Fl] at h2;have hk:∀(b:Bool) h,eT L O=b→Q (.int .i64 (if b=true then 0 else 50)) h:=by subst hQ;intro b h hb;rw[hb]
 conv=>whnf
 iterate 9 (all_goals (first|(refine au h1 ?_;conv=>whnf)|(refine au h2 ?_;conv=>whnf)|(refine au (fF _ _ _) ?_;conv=>whnf)|(refine br (fun hc=>?_) (fun hc=>?_)<;>(try rw[hc])<;>(conv=>whnf))|skip))
 all_goals (try rw[bh] at*)
 all_goals (try rw[kG] at*)
 all_goals (clear h1 h2;first|(refine hk true _ ?_;clear hk hQ;((try simp only[Bool.not_eq_true',Bool.not_eq_false'] at*);simp only[eT, *]<;>first|rfl|(simp;done)|(simp_all;done)|omega);done)|(refine hk false _ ?_;clear hk hQ;((try simp only[Bool.not_eq_true',Bool.not_eq_false'] at*);simp only[eT, *]<;>first|rfl|(simp;done)|(simp_all;done)|omega);done))
theorem tD(n a b:Int):PC fs ms 66 [.int .i64 n,.int .i64 a,.int .i64 b] (.bool (iQ n a b)):=by
 refine aX rfl rfl ?_;refine aC (af:=Yc) false rfl (Nat.le_of_ble_eq_true rfl) ?_;generalize hQ:(fun(v:AV) (_:Heap)=>v=.bool (iQ n a b))=Q;conv=>whnf
 iterate 2 (all_goals (first|(refine br (fun hc=>?_) (fun hc=>?_)<;>(try rw[hc])<;>(conv=>whnf))|skip))
 all_goals (subst hQ;simp_all[iQ]<;>omega)
theorem P0(o:Po)(n:Int):PC fs ms 68 [po o,.int .i64 n] (.bool (uz o n)):=by
 refine aX rfl rfl ?_;refine aC (af:=Ye) false rfl (Nat.le_of_ble_eq_true rfl) ?_;generalize hQ:(fun(v:AV) (_:Heap)=>v=.bool (uz o n))=Q;conv=>whnf
 iterate 18 (all_goals (first|(refine au (tD _ _ _) ?_;conv=>whnf)|(refine br (fun hc=>?_) (fun hc=>?_)<;>(try rw[hc])<;>(conv=>whnf))|skip))
 all_goals (subst hQ;((try simp only[Bool.not_eq_true',Bool.not_eq_false'] at*);simp only[uz, *]<;>first|rfl|(simp;done)|(simp_all;done)|omega))
def zc(t:Tk)(B:Int):Bool:=iQ t.p 1 64&&(iQ t.d 1 t.p&&(iQ t.w 1 t.d&&(iQ t.a 0 255&&iQ t.c 0 4)))&&
 (!((t.a==0&&t.b !=0)||(t.a !=0&&!iQ t.b 1 t.w))&&(bif t.c==0 then(t.e==0&&t.f==0) else(iQ t.e 1 B&&(iQ t.f 1 t.w&&decide (IntKind.i64.wrap (t.e*t.f)≤t.w)))))
theorem Qr(t:Tk)(B:Int):PC fs ms 94 [tk t,.int .i64 B] (.bool (zc t B)):=by
 refine aX rfl rfl ?_;refine aC (af:=Yz) false rfl (Nat.le_of_ble_eq_true rfl) ?_;generalize hQ:(fun(v:AV) (_:Heap)=>v=.bool (zc t B))=Q;conv=>whnf
 iterate 26 (all_goals (first|(refine au (tD _ _ _) ?_;conv=>whnf)|(refine br (fun hc=>?_) (fun hc=>?_)<;>(try rw[hc])<;>(conv=>whnf))|skip))
 all_goals (subst hQ;((try simp only[Bool.not_eq_true',Bool.not_eq_false'] at*);simp only[zc, *]<;>first|rfl|(simp;done)|(simp_all;done)|omega))
theorem PI(t:Tk)(B:Int)(hB:B≤64):zc t B=rN t B:=by
 have key:1≤t.w→t.w≤64→(iQ t.e 1 B&&(iQ t.f 1 t.w&&decide (IntKind.i64.wrap (t.e*t.f)≤t.w)))=(iQ t.e 1 (min B t.w)&&iQ t.f 1 (t.w/t.e)):=by
  intro w1 w2;have hd:1≤t.e→1≤t.f→t.e≤64→t.f≤64→(IntKind.i64.wrap (t.e*t.f)≤t.w↔t.f≤t.w/t.e)∧(IntKind.i64.wrap (t.e*t.f)≤t.w→t.e≤t.w):=by
   intro a b c d;have hm:0≤t.e*t.f∧t.e*t.f≤4096:=⟨Int.mul_nonneg (by omega) (by omega),by have:=Int.mul_le_mul c d (by omega) (by omega);omega⟩;rw[IntWalk.i64_in _ (by omega)];refine⟨⟨fun h=>?_,fun h=>?_⟩,fun h=>?_⟩
   ·exact(Int.le_ediv_iff_mul_le (by omega)).2 (by rw[Int.mul_comm];exact h)
   ·rw[Int.mul_comm];exact(Int.le_ediv_iff_mul_le (by omega)).1 h
   ·have:=Int.mul_le_mul_of_nonneg_left b (show 0≤t.e by omega);omega
  rw[Bool.eq_iff_iff];simp only[Bool.and_eq_true,lQ,decide_eq_true_eq];constructor
  ·rintro⟨⟨a,b⟩,⟨c,d⟩,e⟩;obtain⟨h1,h2⟩:=hd a c (by omega) (by omega);exact⟨⟨a,by have:=h2 e;omega⟩,c,h1.1 e⟩
  ·rintro⟨⟨a,b⟩,c,d⟩;have h3:t.w/t.e≤t.w:=Int.ediv_le_self _ (by omega);obtain⟨h1,h2⟩:=hd a c (by omega) (by omega);exact⟨⟨a,by omega⟩,⟨c,by omega⟩,h1.2 d⟩
 unfold zc rN;by_cases h:iQ t.p 1 64=true∧iQ t.d 1 t.p=true∧iQ t.w 1 t.d=true
 ·obtain⟨h1,h2,h3⟩:=h;rw[h1,h2,h3];rw[lQ] at h1 h2 h3;rw[key (by omega) (by omega)];have hi:∀x y:Bool,(if t.c=0 then x else y)=bif decide (t.c=0) then x else y:=fun x y=>by by_cases h:t.c=0<;>simp[h]
  rw[hi];have e:∀x:Int,(x==0)=decide (x=0):=fun x=>rfl;have e':∀x:Int,(x !=0)=!decide (x=0):=fun x=>rfl;rw[e,e,e,e,e',e'];generalize(iQ t.e 1 (min B t.w)&&iQ t.f 1 (t.w/t.e))=K;generalize decide (t.a=0)=A;generalize decide (t.b=0)=A2;generalize decide (t.c=0)=A3;generalize decide (t.e=0)=A4;generalize decide (t.f=0)=A5;generalize iQ t.a 0 255=A6;generalize iQ t.c 0 4=A7;generalize iQ t.b 1 t.w=A8;revert K A A2 A3 A4 A5 A6 A7 A8;decide
 ·have h1:iQ t.p 1 64=false∨iQ t.d 1 t.p=false∨iQ t.w 1 t.d=false:=by
   rcases h1:iQ t.p 1 64 with _|_
   ·exact .inl rfl
   ·rcases h2:iQ t.d 1 t.p with _|_
    ·exact .inr (.inl rfl)
    ·rcases h3:iQ t.w 1 t.d with _|_
     ·exact .inr (.inr rfl)
     ·exact absurd ⟨h1,h2,h3⟩ h
  rcases h1 with h1|h1|h1<;>simp[h1]
end Ir
end Go.Proofs.Ytepdklcpagielaa
set_option maxRecDepth 100000
set_option linter.unusedSimpArgs false
set_option linter.unusedVariables false
namespace Go.Proofs.Ytepdklcpagielaa
open Go Ads
namespace Ir
theorem PY{x:Pt}(hx:x.ts.length≤17592186044416){h:Heap}{B:Nat}{Q:AX→Env→Heap→Prop}
  (hT:x.ts.all (fun t=>zc t x.cn)=true→∀e',Q (.exit 0) e' h)(hF:x.ts.all (fun t=>zc t x.cn)=false→∀e',Tr.get e' 2=some (.bool false)→Q .ret e' h):
  ∀(m j:Nat) (env:Env),x.ts.length-j=m→j≤x.ts.length→(x.ts.take j).all (fun t=>zc t x.cn)=true→aP env [(1,.fp (pt x).cells 0),(3,.int .i64 ((j:Nat):Int))]→
  VC fs ms B false (.loop jC) env h Q:=by
 intro m;induction m using Nat.strongRecOn with
 |ind m ih=>
 intro j env hm hj hi cH;refine ak 4 _ cH ?_;refine bJ (aj true ?_);conv=>whnf
 repeat(first|(refine⟨_,rfl,?_⟩;conv=>whnf))
 rw[bM];refine br (fun hc=>?_) (fun hc=>?_)<;>(try rw[hc])<;>(conv=>whnf)
 ·have hlt:j<x.ts.length:=by have:=of_decide_eq_true hc;omega
  refine aa (z:=true) ?_;conv=>whnf
  repeat(first|(refine⟨_,rfl,?_⟩;conv=>whnf))
  refine⟨_,iP hlt,?_⟩;conv=>whnf
  refine⟨tk x.ts[j],rfl,?_⟩;conv=>whnf
  repeat(first|(refine⟨_,rfl,?_⟩;conv=>whnf))
  refine au (Qr _ _) ?_;conv=>whnf
  cases hm':zc x.ts[j] x.cn with
  |true=>
   conv=>whnf
   exact ih (x.ts.length-(j+1)) (by omega) (j+1) _ rfl (by omega) (nD hlt hi hm') ⟨rfl,ay (by omega),trivial⟩
  |false=>
   conv=>whnf
   exact hF (yo hlt hm') _ rfl
 ·have hge:j=x.ts.length:=by have:=of_decide_eq_false hc;omega
  subst hge;rw[List.take_length] at hi;exact hT hi _
theorem Mv(x:Pt)(h:x.cn≤64):(x.ts.all fun t=>zc t x.cn)=x.ts.all fun t=>rN t x.cn:=by
 congr 1
 funext t
 exact PI t x.cn h
theorem PX(x:Pt)(hx:x.ts.length≤17592186044416):PC fs ms 67 [pt x] (.bool (gy x)):=by
 refine aX (by simp[bL,DF]) rfl ?_;refine bw (af:=Yd) rfl (Nat.le_of_ble_eq_true rfl) ?_;generalize hQ:(fun(v:AV) (_:Heap)=>v=.bool (gy x))=Q;have hk:∀(b:Bool) h,gy x=b→Q (.bool b) h:=by subst hQ;intro b h hb;rw[hb]
 conv=>whnf
 refine aj false ?_;conv=>whnf
 refine dV [0] (i:=1) (v':=.fp (pt x).cells 0) rfl (.ptr' (by simp) rfl (.clean (show bL (pt x).cells=true by simp[pt,AV.cells,bL,AV.cl,cq]))) ?_;refine ei 4 [(1,.fp (pt x).cells 0)] ⟨⟨_,rfl,.cl (by simp[AV.cl,bL,pt,AV.cells,cq])⟩,trivial⟩ ?_;refine az (VC.mono (Q:=fun y e h=>(y=.ret∧gy x=false∧Tr.get e 2=some (.bool false))∨(y=.normal∧iQ x.cJ 1 64=true∧iQ x.cn 1 x.cJ=true∧decide (x.ts.length≤4)=true∧aP e [(1,.fp (pt x).cells 0)])) ?_ ?_)
 ·refine aa (z:=false) ?_;conv=>whnf
  have hl:decide (((x.ts.length:Nat):Int)>4)=!decide (x.ts.length≤4):=by rw[←decide_not];exact decide_eq_decide.2 (by omega)
  iterate 8 (all_goals (first|(refine au (tD _ _ _) ?_;conv=>whnf)|(refine br (fun hc=>?_) (fun hc=>?_)<;>(try rw[hc])<;>(conv=>whnf))|skip))
  all_goals (try rw[bM] at*)
  all_goals (try rw[hl] at*)
  all_goals (first|(refine .inl ⟨rfl,?_,rfl⟩;clear hk hQ hl;((try simp only[Bool.not_eq_true',Bool.not_eq_false'] at*);simp only[gy, *]<;>first|rfl|(simp;done)|(simp_all;done)|omega))|(refine .inr ⟨rfl,?_,?_,?_,rfl,trivial⟩<;>clear hk hQ hl<;>simp_all))
 rintro y e h (⟨rfl,hp,h2⟩|⟨rfl,h1,h2,h3,he⟩)
 ·exact ez h2 (hk false _ hp)
 ·have hp:gy x=x.ts.all fun t=>zc t x.cn:=by
   rw[Mv x (by rw[lQ] at h1 h2;omega),gy,h1,h2,h3];rfl
  show VC fs ms _ _ _ _ _ _;refine ak 4 _ he ?_;refine az (aj true ?_);conv=>whnf
  refine aL ?_;refine PY hx (fun ht e'=>?_) (fun hf e' h2=>?_) x.ts.length 0 _ rfl (Nat.zero_le _) rfl ⟨rfl,rfl,trivial⟩
  rotate_left
  ·exact ez h2 (hk false _ (hp.trans hf))
  show VC fs ms _ _ _ _ _ _;refine ak 4 [] trivial (aa (z:=true) ?_);conv=>whnf
  exact hk true _ (hp.trans ht)
theorem Iw{k ko:Nat}{L:List Pt}{O:List Po}(hs:Small L){h:Heap}{B:Nat}{Q:AX→Env→Heap→Prop}
  (hT:L.all gy=true→∀e',Tr.get e' 1=some (.fp [.fz k (pts L),.fz ko (pos O)] 0)→Q (.exit 0) e' h)(hF:L.all gy=false→∀e',Tr.get e' 2=some (.int .i64 50)→Q .ret e' h):
  ∀(m j:Nat) (env:Env),L.length-j=m→j≤L.length→(L.take j).all gy=true→aP env [(1,.fp [.fz k (pts L),.fz ko (pos O)] 0),(3,.int .i64 ((j:Nat):Int))]→
  VC fs ms B false (.loop jj) env h Q:=by
 intro m;induction m using Nat.strongRecOn with
 |ind m ih=>
 intro j env hm hj hi cH;have Rc:=hs.1;refine ak 4 _ cH ?_;refine bJ (aj true ?_);conv=>whnf
 repeat(first|(refine⟨_,rfl,?_⟩;conv=>whnf))
 rw[bh];refine br (fun hc=>?_) (fun hc=>?_)<;>(try rw[hc])<;>(conv=>whnf)
 ·have hlt:j<L.length:=by have:=of_decide_eq_true hc;omega
  refine aa (z:=true) ?_;conv=>whnf
  repeat(first|(refine⟨_,rfl,?_⟩;conv=>whnf))
  refine⟨_,gH hlt,?_⟩;conv=>whnf
  refine⟨pt L[j],rfl,?_⟩;conv=>whnf
  refine au (PX _ (hs.2 _ (List.getElem_mem hlt))) ?_;conv=>whnf
  cases hm':gy L[j] with
  |true=>
   conv=>whnf
   exact ih (L.length-(j+1)) (by omega) (j+1) _ rfl (by omega) (nD hlt hi hm') ⟨rfl,ay (by omega),trivial⟩
  |false=>
   conv=>whnf
   exact hF (yo hlt hm') _ rfl
 ·have hge:j=L.length:=by have:=of_decide_eq_false hc;omega
  subst hge;rw[List.take_length] at hi;exact hT hi _ rfl
theorem Iy{k ko:Nat}{L:List Pt}{O:List Po}(ho:O.length≤17592186044416){h:Heap}{B:Nat}{Q:AX→Env→Heap→Prop}
  (hT:O.all (fun o=>uz o (L.length:Nat))=true→∀e',Q (.exit 2) e' h)(hF:O.all (fun o=>uz o (L.length:Nat))=false→∀e',Tr.get e' 2=some (.int .i64 50)→Q .ret e' h):
  ∀(m j:Nat) (env:Env),O.length-j=m→j≤O.length→(O.take j).all (fun o=>uz o (L.length:Nat))=true→aP env [(1,.fp [.fz k (pts L),.fz ko (pos O)] 0),(4,.int .i64 ((j:Nat):Int))]→
  VC fs ms B false (.loop jk) env h Q:=by
 intro m;induction m using Nat.strongRecOn with
 |ind m ih=>
 intro j env hm hj hi cH;refine ak 4 _ cH ?_;refine bJ (aj true ?_);conv=>whnf
 repeat(first|(refine⟨_,rfl,?_⟩;conv=>whnf))
 rw[kG];refine br (fun hc=>?_) (fun hc=>?_)<;>(try rw[hc])<;>(conv=>whnf)
 ·have hlt:j<O.length:=by have:=of_decide_eq_true hc;omega
  refine aa (z:=true) ?_;conv=>whnf
  repeat(first|(refine⟨_,rfl,?_⟩;conv=>whnf))
  refine⟨_,wG hlt,?_⟩;conv=>whnf
  refine⟨po O[j],rfl,?_⟩;conv=>whnf
  repeat(first|(refine⟨_,rfl,?_⟩;conv=>whnf))
  rw[bh];refine au (P0 _ _) ?_;conv=>whnf
  cases hm':uz O[j] (L.length:Nat) with
  |true=>
   conv=>whnf
   exact ih (O.length-(j+1)) (by omega) (j+1) _ rfl (by omega) (nD hlt hi hm') ⟨rfl,ay (by omega),trivial⟩
  |false=>
   conv=>whnf
   exact hF (yo hlt hm') _ rfl
 ·have hge:j=O.length:=by have:=of_decide_eq_false hc;omega
  subst hge;rw[List.take_length] at hi;exact hT hi _
theorem KA(k:Nat)(L:List Pt)(ko:Nat)(O:List Po)(hs:Small L)(ho:O.length≤17592186044416):PC fs ms 44 [cfg k L ko O] (.int .i64 (if eT L O=true then 0 else 50)):=by
 refine aX (by simp[bL,oK]) rfl ?_;refine bw (af:=XM) rfl (Nat.le_of_ble_eq_true rfl) ?_;generalize hQ:(fun(v:AV) (_:Heap)=>v=.int .i64 (if eT L O=true then 0 else 50))=Q;have hk:∀(b:Bool) h,eT L O=b→Q (.int .i64 (if b=true then 0 else 50)) h:=by subst hQ;intro b h hb;rw[hb]
 have hf:∀h,eT L O=false→Q (.int .i64 50) h:=fun h hb=>hk false h hb;have ht:∀h,eT L O=true→Q (.int .i64 0) h:=fun h hb=>hk true h hb;clear hk hQ;conv=>whnf
 refine aj false ?_;conv=>whnf
 refine dV [0] (i:=1) (v':=.fp [.fz k (pts L),.fz ko (pos O)] 0) rfl (.ptr' (by simp) rfl (.clean (by simp[cfg,AV.cells,bL,AV.cl,bz,fk]))) ?_;refine ei 4 [(1,.fp [.fz k (pts L),.fz ko (pos O)] 0)] ⟨⟨_,rfl,.cl (by simp[AV.cl,bL,bz,fk])⟩,trivial⟩ ?_;refine az (VC.mono (Q:=fun y e h=>(y=.ret∧eT L O=false∧Tr.get e 2=some (.int .i64 50))∨(y=.normal∧iQ (L.length:Nat) 1 4=true∧decide (((O.length:Nat):Int)>8)=false∧aP e [(1,.fp [.fz k (pts L),.fz ko (pos O)] 0)])) ?_ ?_)
 ·refine aa (z:=false) ?_;conv=>whnf
  rw[bh];iterate 6 (all_goals (first|(refine au (tD _ _ _) ?_;conv=>whnf)|(refine br (fun hc=>?_) (fun hc=>?_)<;>(try rw[hc])<;>(conv=>whnf))|skip))
  all_goals (try rw[kG] at*)
  all_goals (first|(refine .inl ⟨rfl,?_,rfl⟩;clear hf ht;((try simp only[Bool.not_eq_true',Bool.not_eq_false'] at*);simp only[eT, *]<;>first|rfl|(simp;done)|(simp_all;done)|omega))|(refine .inr ⟨rfl,?_,?_,rfl,trivial⟩<;>clear hf ht<;>simp_all))
 rintro y e h (⟨rfl,hp,h2⟩|⟨rfl,h1,h2,he⟩)
 ·exact ez h2 (hf _ hp)
 ·have hp:eT L O=(L.all gy&&O.all (fun o=>uz o (L.length:Nat))):=by
   rw[eT,h1,h2];simp
  show VC fs ms _ _ _ _ _ _;refine ak 4 _ he ?_;refine az (aj true ?_);conv=>whnf
  refine aL ?_;refine Iw (ko:=ko) hs (fun hA e' h1=>?_) (fun hA e' h2=>?_) L.length 0 _ rfl (Nat.zero_le _) rfl ⟨rfl,rfl,trivial⟩
  rotate_left
  ·exact ez h2 (hf _ (by rw[hp,hA];rfl))
  show VC fs ms _ _ _ _ _ _;refine ak 4 [(1,.fp [.fz k (pts L),.fz ko (pos O)] 0)] ⟨h1,trivial⟩ ?_;refine az (aj true ?_);conv=>whnf
  refine aL ?_;refine Iy ho (fun hB e'=>?_) (fun hB e' h2=>?_) O.length 0 _ rfl (Nat.zero_le _) rfl ⟨rfl,rfl,trivial⟩
  rotate_left
  ·exact ez h2 (hf _ (by rw[hp,hB,Bool.and_false]))
  show VC fs ms _ _ _ _ _ _;refine ak 4 [] trivial (aa (z:=true) ?_);conv=>whnf
  exact ht _ (by rw[hp,hA,hB];rfl)
end Ir
end Go.Proofs.Ytepdklcpagielaa
set_option maxRecDepth 100000
set_option linter.unusedSimpArgs false
set_option linter.unusedVariables false
namespace Go.Proofs.Ytepdklcpagielaa
open Go Ads
namespace Ads
theorem jo.mono{P P':Nat→Prop}(hp:∀b,P b→P' b){g:Heap}{v v':AV}(h:jo P g v v'):jo P' g v v':=by
 induction h with
 |clean h=>exact .clean h
 |agg h _ ih=>exact .agg h ih
 |cQ h _ ih=>exact .cQ h ih
 |iface _ ih=>exact .iface ih
 |aD=>exact .aD
 |func h _ h' _ ih ih'=>exact .func h ih h' ih'
 |ptr hb hg ho hl _ ih=>exact .ptr (hp _ hb) hg ho hl ih
 |sl hb hg hs hn hl hc hk h1 h2 _ ih=>exact .sl (hp _ hb) hg hs hn hl hc hk h1 h2 ih
end Ads
namespace Ir
theorem iX(l:List Tk):aW 8 (dI l)=true:=ew (enc:=tk) (fun _=>rfl) l
theorem fE(l:List Pt):aW 3 (pts l)=true:=ew (enc:=pt) (fun _=>rfl) l
theorem Br:∀l:List Tk,bx (ai (dI l))=true
 |[]=>rfl
 |x::l=>by
  show bx ((tk x).cells++ai (dI l))=true;simp only[tk,AV.cells,List.cons_append,List.nil_append,o8,Br l];rfl
theorem Bp:∀l:List Po,bx (ai (pos l))=true
 |[]=>rfl
 |x::l=>by
  show bx ((po x).cells++ai (pos l))=true;simp only[po,AV.cells,List.cons_append,List.nil_append,o8,Bp l];rfl
def jl(x:Pt):Pt:={x with k:=gv x.ts.length}
structure Fits(L:List Pt)(O:List Po):Prop where
 parts:L.length*40≤140737488355328
 tasks:∀x∈L,x.ts.length*64≤140737488355328
 EA:O.length*48≤140737488355328
theorem Fits.small{L:List Pt}{O:List Po}(h:Fits L O):Small L:=⟨by have:=h.parts;omega,fun x hx=>by have:=h.tasks x hx;omega⟩
theorem RI{k ko:Nat}{L:List Pt}{O:List Po}(hf:Fits L O){h0:Heap}{R2 R3:Nat}(h2:R2<h0.next)(h3:R3<h0.next)(hne:R2≠R3){Y2:AV}{B:Nat}{Q:AX→Env→Heap→Prop}
  (hQ:∀e' h' v,GR 3 h0.next h' v (pts (L.map jl))→h'.get R3=some (.cells [v,.aD] true 0)→Fr h0 h' [R3]→aP e' [(1,.fp [.fz k (pts L),.fz ko (pos O)] 0),(2,.ptr R2 0),(3,.ptr R3 0)]→Q (.exit 0) e' h'):
  ∀(m j:Nat) (h:Heap) (v:AV) (env:Env),L.length-j=m→j≤L.length→GR 3 h0.next h v (pts ((L.take j).map jl))→h.get R3=some (.cells [v,.aD] true 0)→Fr h0 h [R3]→
  aP env [(1,.fp [.fz k (pts L),.fz ko (pos O)] 0),(2,.ptr R2 0),(3,.ptr R3 0),(4,.int .i64 ((j:Nat):Int))]→
  VC fs ms B false (.loop jy) env h Q:=by
 intro m;induction m using Nat.strongRecOn with
 |ind m ih=>
 intro j h v env hm hj hv g3 fr cH;have hp:=hf.parts;refine ak 4 _ cH ?_;refine bJ (aj true ?_);conv=>whnf
 repeat(first|(refine⟨_,rfl,?_⟩;conv=>whnf))
 rw[bh];refine br (fun hc=>?_) (fun hc=>?_)<;>(try rw[hc])<;>(conv=>whnf)
 ·have hlt:j<L.length:=by have:=of_decide_eq_true hc;omega
  have ht:=hf.tasks _ (List.getElem_mem hlt);refine az (aL ?_);refine aj true ?_;conv=>whnf
  repeat(first|(refine⟨_,rfl,?_⟩;conv=>whnf))
  refine⟨_,gH hlt,?_⟩;conv=>whnf
  refine⟨pt L[j],rfl,?_⟩;conv=>whnf
  refine aT (cD (n:=3) (v:=pt L[j]) an rfl (Nat.le_refl _) rfl) fun h1 e1=>?_;conv=>whnf
  have g1:h1.get h.next=some (.cells (pt L[j]).cells true 0):=by rw[e1,aG];rfl
  have cT:Fr h h1 []:=by rw[e1];exact((Fr.refl h []).new (x:=_)).lD (Nat.le_refl _)
  have n1:h.next<h1.next:=by rw[e1];exact Nat.lt_succ_self _
  clear e1;refine aj true ?_;conv=>whnf
  refine az (VC.mono (Q:=fun y e h4=>y=.normal∧∃tv,GR 8 (h.next+1) h4 tv (dI L[j].ts)∧h4.get h.next=some (.cells [.int .i64 L[j].cJ,.int .i64 L[j].cn,tv] true 0)∧Fr h h4 []∧h.next<h4.next∧
   aP e [(1,.fp [.fz k (pts L),.fz ko (pos O)] 0),(2,.ptr R2 0),(3,.ptr R3 0),(4,.int .i64 ((j:Nat):Int)),(5,.ptr h.next 0)]) ?_ ?_)
  ·refine aa (z:=true) ?_;conv=>whnf
   refine⟨_,bA g1 rfl,?_⟩;conv=>whnf
   obtain⟨tv,rF,e2,Az,fq⟩:=GR.copy (bytes:=64) (k:=L[j].k) (lo:=h.next+1) (h:=h1) (by omega) (iX L[j].ts) (Br _) (by rw[bM];exact ht) (by rw[bM];omega);refine aT e2 fun aaU Cp=>?_;subst Cp;conv=>whnf
   have g2:aaU.get h.next=some (.cells (pt L[j]).cells true 0):=(fq.keep _ n1 (by simp)).trans g1;have hfl:bx tv.cells=true:=by
    rcases Az with⟨_,rfl⟩|⟨_,b,_,_,rfl,_⟩<;>rfl
   have jQ:tv.cells=[tv]:=by
    rcases Az with⟨_,rfl⟩|⟨_,b,_,_,rfl,_⟩<;>rfl
   refine aT (cD (n:=1) (v:=tv) (o:=0+2) g2 (by rw[jQ];rfl) (Nat.le_refl _) hfl) fun JW IK=>?_;conv=>whnf
   rw[jQ] at IK;refine⟨rfl,tv,?_,?_,?_,?_,rfl,rfl,rfl,rfl,rfl,trivial⟩
   ·rw[IK];exact Az.keep (T:=[h.next]) ((Fr.refl _ _).set (by simp)) (by simp)
   ·rw[IK,aG];rfl
   ·rw[IK];exact(cT.trans fq).lD (Nat.le_refl _)
   ·rw[IK];exact Nat.lt_of_lt_of_le n1 fq.next
  rintro y e h4 ⟨rfl,tv,ht4,g4,jY,n4,he⟩;show VC fs ms _ _ _ _ _ _;refine ak 4 _ he ?_;clear he;obtain⟨bs,hfz,JX⟩:=ht4.JT (iX _) (cq _);rw[bM] at hfz;have hfp:jo (· ∈h.next::bs) h4 (.ptr h.next 0) (.fp (pt (jl L[j])).cells 0):=by
   exact .ptr' (by simp) g4 (.cons (.clean rfl) (.cons (.clean rfl) (.cons (hfz.mono fun b hb=>List.mem_cons_of_mem _ hb) .nil)))
  refine dV (h.next::bs) (i:=5) rfl hfp ?_;have k9:Fr h (ck (h.next::bs) h4) []:=uZ (by intro b hb;rcases List.mem_cons.1 hb with rfl|hb;exact Nat.le_refl _;exact Nat.le_of_succ_le (JX b hb)) jY;have n5:h.next<(ck (h.next::bs) h4).next:=by rw[dP];exact n4
  generalize ck (h.next::bs) h4=h5 at*;clear hfp hfz JX ht4 g4;refine ak 4 [(1,.fp [.fz k (pts L),.fz ko (pos O)] 0),(2,.ptr R2 0),(3,.ptr R3 0),(4,.int .i64 ((j:Nat):Int)),(5,.fp (pt (jl L[j])).cells 0)] ⟨rfl,rfl,rfl,rfl,rfl,trivial⟩ ?_;refine aa (z:=true) ?_;conv=>whnf
  have g5:h5.get R3=some (.cells [v,.aD] true 0):=(k9.keep _ (Nat.lt_of_lt_of_le h3 fr.next) (by simp)).trans g3;refine⟨_,bA g5 rfl,?_⟩;conv=>whnf
  refine⟨pt (jl L[j]),rfl,?_⟩;conv=>whnf
  have hlj:(pts ((L.take j).map jl)).length=j:=by rw[bh,List.length_map,List.length_take];omega
  obtain⟨v',g',ea,BB,na,ka⟩:=(hv.keep k9 (by simp)).app (bytes:=40) (x:=pt (jl L[j])) (Nat.le_trans fr.next k9.next) rfl rfl (fE _) (by rw[hlj];omega) (by rw[hlj];omega);refine aT ea fun g'' ea'=>?_;subst ea';conv=>whnf
  have Wo:bx v'.cells=true∧v'.cells=[v']:=by
   rcases BB with⟨_,rfl⟩|⟨_,b,_,_,rfl,_⟩<;>exact⟨rfl,rfl⟩
  have g6:g''.get R3=some (.cells [v,.aD] true 0):=(ka R3 h3).trans g5;refine aT (cD (n:=1) (v:=v') (o:=0+0) g6 (by rw[Wo.2];rfl) (by simp) Wo.1) fun g7 e7=>?_;conv=>whnf
  rw[Wo.2] at e7;have tG:Fr h5 g'' []→True:=fun _=>trivial;have hfr:Fr h0 g'' [R3]:=⟨Nat.le_trans fr.next (Nat.le_trans k9.next na),fun c hc hn=>by rw[ka c hc,k9.keep c (Nat.lt_of_lt_of_le hc fr.next) (by simp)];exact fr.keep c hc hn⟩;have ir:pts ((L.take (j+1)).map jl)=pts ((L.take j).map jl)++[pt (jl L[j])]:=by rw[eY hlt,List.map_append,pts,List.map_append];rfl
  refine aa (z:=true) ?_;conv=>whnf
  refine ih (L.length-(j+1)) (by omega) (j+1) g7 v' _ rfl (by omega) ?_ ?_ ?_ ⟨rfl,rfl,rfl,ay (by omega),trivial⟩
  ·rw[ir,e7];exact BB.keep (T:=[R3]) ((Fr.refl _ _).set (by simp)) (by simpa using h3)
  ·rw[e7,aG];rfl
  ·rw[e7];exact hfr.set (by simp)
 ·have hge:j=L.length:=by have:=of_decide_eq_false hc;omega
  subst hge;rw[List.take_length] at hv;exact hQ _ h v hv g3 fr ⟨rfl,rfl,rfl,trivial⟩
theorem EG{a n:Nat}{e:Env}{h:Heap}{b o:Nat}{cs:List AV}(hg:Tr.get e a=some (.ptr b o))(hl:h.bn b o n=some cs):er e h [.cell a n true]=some [.agg cs]:=by
 simp only[er,oR,hg,hl,cond_true,Option.map_some]
theorem Hg(k ko:Nat){L:List Pt}{O:List Po}(hf:Fits L O){h0:Heap}{Q:AV→Heap→Prop}
  (hQ:∀h' v w,GR 3 h0.next h' v (pts (L.map jl))→GR 6 h0.next h' w (pos O)→Fr h0 h' []→Q (.agg [v,w]) h'):VD fs ms 17 [cfg k L ko O] h0 Q:=by
 have hp:=hf.EA;refine bw (af:=Xx) rfl (Nat.le_of_ble_eq_true rfl) ?_;conv=>whnf
 refine aj true ?_;conv=>whnf
 have g1:((h0.new (.cells (cfg k L ko O).cells true 0)).new (.cells [.aD,.aD] true 0)).get h0.next=some (.cells [.fz k (pts L),.fz ko (pos O)] true 0):=(aO (Nat.lt_succ_self _)).trans an;have g2:((h0.new (.cells (cfg k L ko O).cells true 0)).new (.cells [.aD,.aD] true 0)).get (h0.next+1)=some (.cells [.aD,.aD] true 0):=an (h:=h0.new (.cells (cfg k L ko O).cells true 0));have cT:Fr h0 ((h0.new (.cells (cfg k L ko O).cells true 0)).new (.cells [.aD,.aD] true 0)) []:=(Fr.refl h0 []).new.new;have n1:((h0.new (.cells (cfg k L ko O).cells true 0)).new (.cells [.aD,.aD] true 0)).next=h0.next+2:=rfl
 generalize(h0.new (.cells (cfg k L ko O).cells true 0)).new (.cells [.aD,.aD] true 0)=h1 at*;refine dV [h0.next] (i:=1) (v':=.fp [.fz k (pts L),.fz ko (pos O)] 0) rfl (.ptr' (by simp) g1 (.clean (by simp[bL,AV.cl,bz,fk]))) ?_;have fq:Fr h0 (ck [h0.next] h1) []:=uZ (by simp) cT;have QL:(ck [h0.next] h1).get (h0.next+1)=some (.cells [.aD,.aD] true 0):=by rw[jW,if_neg (by simp)];exact g2
 have n2:(ck [h0.next] h1).next=h0.next+2:=by rw[dP];exact n1
 generalize ck [h0.next] h1=h2 at*;clear g1 g2 cT n1;refine ak 4 [(1,.fp [.fz k (pts L),.fz ko (pos O)] 0),(2,.ptr (h0.next+1) 0)] ⟨rfl,rfl,trivial⟩ ?_;refine aj true ?_;conv=>whnf
 refine aT (cD (n:=2) (v:=.agg [.aD,.aD]) an rfl (Nat.le_refl _) rfl) fun h3 e3=>?_;conv=>whnf
 have g3:h3.get h2.next=some (.cells [.aD,.aD] true 0):=by rw[e3,aG];rfl
 have iB:Fr h2 h3 []:=by rw[e3];exact((Fr.refl h2 []).new (x:=_)).lD (Nat.le_refl _)
 have n3:h3.next=h2.next+1:=by rw[e3];rfl
 have g2:h3.get (h0.next+1)=some (.cells [.aD,.aD] true 0):=(iB.keep _ (by omega) (by simp)).trans QL;clear e3;refine az (aj true ?_);conv=>whnf
 refine aL ?_;refine RI (k:=k) (ko:=ko) hf (h0:=h3) (R2:=h0.next+1) (R3:=h2.next) (Y2:=.aD) (by omega) (by omega) (by omega) (fun e' h4 v hv g4 jY he=>?_) L.length 0 h3 .aD _ rfl (Nat.zero_le _) (.inl ⟨rfl,rfl⟩) g3 (Fr.refl _ _) ⟨rfl,rfl,rfl,rfl,trivial⟩;have g5:h4.get (h0.next+1)=some (.cells [.aD,.aD] true 0):=(jY.keep _ (by omega) (by simp;omega)).trans g2;show VC fs ms _ _ _ _ _ _;refine ak 4 _ he ?_;clear he;refine aa (z:=true) ?_;conv=>whnf
 refine⟨_,bA g4 rfl,?_⟩;conv=>whnf
 repeat(first|(refine⟨_,rfl,?_⟩;conv=>whnf))
 have hlo:h3.next≤h4.next:=jY.next;obtain⟨w,h5,e5,hw,k9⟩:=GR.copy (bytes:=48) (k:=ko) (lo:=h3.next) (h:=h4) hlo (size_pos O) (Bp O) (by rw[kG];exact hp) (by rw[kG];omega);refine aT e5 fun O6 YM=>?_;subst YM;conv=>whnf
 have hwf:bx w.cells=true∧w.cells=[w]:=by
  rcases hw with⟨_,rfl⟩|⟨_,b,_,_,rfl,_⟩<;>exact⟨rfl,rfl⟩
 have g6:O6.get h2.next=some (.cells [v,.aD] true 0):=(k9.keep _ (by omega) (by simp)).trans g4;have g7:O6.get (h0.next+1)=some (.cells [.aD,.aD] true 0):=(k9.keep _ (by omega) (by simp)).trans g5;refine aT (cD (n:=1) (v:=w) (o:=0+1) g6 (by rw[hwf.2];rfl) (by simp) hwf.1) fun h6 e6=>?_;conv=>whnf
 rw[hwf.2] at e6;have g8:h6.get h2.next=some (.cells [v,w] true 0):=by rw[e6,aG];rfl
 have g9:h6.get (h0.next+1)=some (.cells [.aD,.aD] true 0):=by rw[e6,bB (by omega)];exact g7
 have tG:Fr O6 h6 [h2.next]:=by rw[e6];exact(Fr.refl _ _).set (by simp)
 clear e6;refine⟨.agg [v,w],tU (n:=2) g8 (by simp),?_⟩;conv=>whnf
 have Wo:v.flat=true:=by
  rcases hv with⟨_,rfl⟩|⟨_,b,_,_,rfl,_⟩<;>rfl
 have ab4:w.flat=true:=by
  rcases hw with⟨_,rfl⟩|⟨_,b,_,_,rfl,_⟩<;>rfl
 refine aT (cD (n:=2) (v:=.agg [v,w]) (o:=0) g9 rfl (by simp) (by simp[AV.cells,o8,Wo,ab4];rfl)) fun h7 e7=>?_;conv=>whnf
 have g10:h7.get (h0.next+1)=some (.cells [v,w] true 0):=by rw[e7,aG];rfl
 have yM:Fr h6 h7 [h0.next+1]:=by rw[e7];exact(Fr.refl _ _).set (by simp)
 clear e7;have l7:h7.bn (h0.next+1) 0 2=some [v,w]:=by simp[Heap.bn,Heap.row,g10];rfl
 have frA:Fr h0 h7 []:=by
  have f0:Fr h3 h7 [h2.next,h0.next+1]:=(jY.wk (by simp)).trans ((k9.wk (by simp)).trans ((tG.wk (by simp)).trans (yM.wk (by simp))));exact⟨Nat.le_trans fq.next (Nat.le_trans iB.next f0.next),fun c hc hn=>(f0.keep c (by omega) (by simp;omega)).trans ((iB.keep c (by omega) (by simp)).trans (fq.keep c hc hn))⟩
 have hv7:GR 3 h0.next h7 v (pts (L.map jl)):=(hv.keep ((k9.wk (cs:=[h2.next,h0.next+1]) (by simp)).trans ((tG.wk (by simp)).trans (yM.wk (by simp)))) (by simp;omega)).low (by omega);have hw7:GR 6 h0.next h7 w (pos O):=(hw.keep ((tG.wk (cs:=[h2.next,h0.next+1]) (by simp)).trans (yM.wk (by simp))) (by simp;omega)).low (by omega);have:=hQ h7 v w hv7 hw7 frA;generalize hE:er _ _ _=R;have hR:R=some [.agg [v,w]]:=by
  rw[←hE];exact EG (by rfl) l7
 rw[hR];exact this
end Ir
end Go.Proofs.Ytepdklcpagielaa
set_option maxRecDepth 100000
set_option linter.unusedSimpArgs false
set_option linter.unusedVariables false
namespace Go.Proofs.Ytepdklcpagielaa
open Go Ads
namespace Ir
theorem Pk{L:List Pt}{j k:Nat}(hj:j<L.length):pV (.aE 3) [.fz k (pts (L.map jl)),.int .i64 (j:Nat)]=some (.fp (pt (jl L[j])).cells 0):=by
 have:=gH (l:=L.map jl) (k:=k) (j:=j) (by simpa using hj)
 rwa [List.getElem_map] at this
theorem Xj(x:Tk):pV (.neq (.cells [0,0,0,0,0,0,0,0])) [tk x,tk x]=some (.bool false):=by
 show(eC [0,0,0,0,0,0,0,0] (tk x).cells (tk x).cells).map (fun b=>AV.bool !b)=_;simp[eC,qK,tk,AV.cells]
theorem W5(x:Po):pV (.neq (.cells [0,0,0,0,0,0])) [po x,po x]=some (.bool false):=by
 show(eC [0,0,0,0,0,0] (po x).cells (po x).cells).map (fun b=>AV.bool !b)=_;simp[eC,qK,po,AV.cells]
theorem q6(a:Int):(a !=a)=false:=by simp
theorem YL(a:Nat):(((a:Nat):Int)!=((a:Nat):Int))=false:=by simp
theorem Qg{x:Pt}(hx:x.ts.length≤17592186044416){Y2 Y3 Y5:AV}{B:Nat}{h:Heap}{Q:AX→Env→Heap→Prop}
  (hQ:∀e',aP e' [(2,Y2),(3,Y3),(5,Y5)]→Q (.exit 2) e' h):
  ∀(m j:Nat) (env:Env),x.ts.length-j=m→j≤x.ts.length→aP env [(2,Y2),(3,Y3),(5,Y5),(6,.fp (pt x).cells 0),(7,.fp (pt (jl x)).cells 0),(8,.int .i64 ((j:Nat):Int))]→
  VC fs ms B false (.loop jA) env h Q:=by
 intro m;induction m using Nat.strongRecOn with
 |ind m ih=>
 intro j env hm hj cH;refine ak 4 _ cH ?_;refine bJ (aj true ?_);conv=>whnf
 repeat(first|(refine⟨_,rfl,?_⟩;conv=>whnf))
 rw[bM];refine br (fun hc=>?_) (fun hc=>?_)<;>(try rw[hc])<;>(conv=>whnf)
 ·have hlt:j<x.ts.length:=by have:=of_decide_eq_true hc;omega
  refine aa (z:=true) ?_;conv=>whnf
  repeat(first|(refine⟨_,rfl,?_⟩;conv=>whnf))
  refine⟨_,iP hlt,?_⟩;conv=>whnf
  refine⟨tk x.ts[j],rfl,?_⟩;conv=>whnf
  refine⟨.fz (gv x.ts.length) (dI x.ts),rfl,?_⟩;conv=>whnf
  refine⟨_,iP hlt,?_⟩;conv=>whnf
  refine⟨tk x.ts[j],rfl,?_⟩;conv=>whnf
  refine sZ (Xj _) ?_;conv=>whnf
  exact ih (x.ts.length-(j+1)) (by omega) (j+1) _ rfl (by omega) ⟨rfl,rfl,rfl,rfl,rfl,ay (by omega),trivial⟩
 ·have hge:j=x.ts.length:=by have:=of_decide_eq_false hc;omega
  exact hQ _ ⟨rfl,rfl,rfl,trivial⟩
theorem Qf{k ko k' Gc:Nat}{L:List Pt}{O:List Po}(hf:Fits L O){B:Nat}{Q:AX→Env→Heap→Prop}
  (hQ:∀e' h',aP e' [(2,.fp [.fz k (pts L),.fz ko (pos O)] 0),(3,.fp [.fz k' (pts (L.map jl)),.fz Gc (pos O)] 0)]→Q (.exit 0) e' h'):
  ∀(m j:Nat) (h:Heap) (env:Env),L.length-j=m→j≤L.length→aP env [(2,.fp [.fz k (pts L),.fz ko (pos O)] 0),(3,.fp [.fz k' (pts (L.map jl)),.fz Gc (pos O)] 0),(5,.int .i64 ((j:Nat):Int))]→
  VC fs ms B false (.loop jz) env h Q:=by
 intro m;induction m using Nat.strongRecOn with
 |ind m ih=>
 intro j h env hm hj cH;have hp:=hf.parts;refine ak 4 _ cH ?_;refine bJ (aj true ?_);conv=>whnf
 repeat(first|(refine⟨_,rfl,?_⟩;conv=>whnf))
 rw[bh];refine br (fun hc=>?_) (fun hc=>?_)<;>(try rw[hc])<;>(conv=>whnf)
 ·have hlt:j<L.length:=by have:=of_decide_eq_true hc;omega
  have Pj:L[j].ts.length≤17592186044416:=by have:=hf.tasks _ (List.getElem_mem hlt);omega
  refine az (aL ?_);refine aj true ?_;conv=>whnf
  repeat(first|(refine⟨_,rfl,?_⟩;conv=>whnf))
  refine⟨_,gH hlt,?_⟩;conv=>whnf
  refine⟨pt L[j],rfl,?_⟩;conv=>whnf
  refine⟨.fz k' (pts (L.map jl)),rfl,?_⟩;conv=>whnf
  refine⟨_,Pk hlt,?_⟩;conv=>whnf
  refine⟨pt (jl L[j]),rfl,?_⟩;conv=>whnf
  refine aT (cD (n:=3) (v:=pt L[j]) (b:=h.next) (vs:=[.int .i64 0,.int .i64 0,.aD]) (es:=0) ((aO (h:=h.new _) (Nat.lt_succ_self _)).trans an) rfl (Nat.le_refl _) rfl) fun h1 e1=>?_;conv=>whnf
  refine aT (cD (n:=3) (v:=pt (jl L[j])) (b:=h.next+1) (vs:=[.int .i64 0,.int .i64 0,.aD]) (es:=0) (by rw[e1,bB (by omega)];exact an (h:=h.new _)) rfl (Nat.le_refl _) rfl) fun h2 e2=>?_;conv=>whnf
  refine⟨dc (by(conv=>whnf);repeat' (first|exact trivial|(exact⟨rfl,rfl,.inr ⟨_,_,rfl⟩⟩)|(refine⟨rfl,rfl,.inl ⟨rfl,fun o ho=>?_⟩⟩;cases ho;first|rfl)|(exact⟨rfl,.inr ⟨_,_,rfl⟩⟩)|(refine⟨rfl,.inl ⟨rfl,fun i o hi ho=>?_⟩⟩;cases hi;cases ho;first|rfl)|(refine And.intro (fun dZ=>(Bool.false_ne_true dZ).elim) ?_<;>conv=>whnf)|(refine And.intro (fun _=>?_) ?_<;>conv=>whnf)|(refine And.intro ?_ ?_<;>conv=>whnf))),?_⟩;conv=>whnf
  have g6:h2.get h.next=some (.cells (pt L[j]).cells true 0):=by rw[e2,bB (by omega),e1,aG];rfl
  have g7:h2.get (h.next+1)=some (.cells (pt (jl L[j])).cells true 0):=by rw[e2,aG];rfl
  clear e1 e2;refine dV [h.next] (i:=6) (v':=.fp (pt L[j]).cells 0) rfl (.ptr' (by simp) g6 (.clean (show bL (pt L[j]).cells=true by simp[pt,AV.cells,bL,AV.cl,cq]))) ?_;have g7':(ck [h.next] h2).get (h.next+1)=some (.cells (pt (jl L[j])).cells true 0):=by rw[jW,if_neg (by simp)];exact g7
  refine dV [h.next+1] (i:=7) (v':=.fp (pt (jl L[j])).cells 0) rfl (.ptr' (by simp) g7' (.clean (show bL (pt (jl L[j])).cells=true by simp[pt,AV.cells,bL,AV.cl,cq]))) ?_;generalize ck [h.next+1] (ck [h.next] h2)=h3;refine ak 4 [(2,.fp [.fz k (pts L),.fz ko (pos O)] 0),(3,.fp [.fz k' (pts (L.map jl)),.fz Gc (pos O)] 0),(5,.int .i64 ((j:Nat):Int)),(6,.fp (pt L[j]).cells 0),(7,.fp (pt (jl L[j])).cells 0)] ⟨rfl,rfl,rfl,rfl,rfl,trivial⟩ ?_;refine az (aa (z:=true) ?_);conv=>whnf
  repeat(first|(refine⟨_,(rfl:rV .bC _ _=some (.int .i64 _)),?_⟩;conv=>whnf)|(refine⟨_,(rfl:rV .bC _ _=some (.fz _ _)),?_⟩;conv=>whnf))
  refine lY (q6 _) (fun hc=>?_)
  (try rw[hc])
  conv=>whnf
  repeat(first|(refine⟨_,(rfl:rV .bC _ _=some (.int .i64 _)),?_⟩;conv=>whnf)|(refine⟨_,(rfl:rV .bC _ _=some (.fz _ _)),?_⟩;conv=>whnf))
  refine lY (q6 _) (fun hc=>?_)
  (try rw[hc])
  conv=>whnf
  repeat(first|(refine⟨_,(rfl:rV .bC _ _=some (.int .i64 _)),?_⟩;conv=>whnf)|(refine⟨_,(rfl:rV .bC _ _=some (.fz _ _)),?_⟩;conv=>whnf))
  refine lY (q6 _) (fun hc=>?_)
  (try rw[hc])
  conv=>whnf
  refine aj true ?_;conv=>whnf
  refine aL ?_;refine Qg (x:=L[j]) Pj (Y2:=.fp [.fz k (pts L),.fz ko (pos O)] 0) (Y3:=.fp [.fz k' (pts (L.map jl)),.fz Gc (pos O)] 0) (Y5:=.int .i64 ((j:Nat):Int)) (fun e' he=>?_) L[j].ts.length 0 _ rfl (Nat.zero_le _) ⟨rfl,rfl,rfl,rfl,rfl,rfl,trivial⟩;show VC fs ms _ _ _ _ _ _;refine ak 4 _ he (aa (z:=true) ?_);conv=>whnf
  exact ih (L.length-(j+1)) (by omega) (j+1) _ _ rfl (by omega) ⟨rfl,rfl,ay (by omega),trivial⟩
 ·have hge:j=L.length:=by have:=of_decide_eq_false hc;omega
  exact hQ _ _ ⟨rfl,rfl,trivial⟩
theorem Qh{k ko k' Gc:Nat}{L:List Pt}{O:List Po}(hf:Fits L O){B:Nat}{Q:AX→Env→Heap→Prop}{h:Heap}
  (hQ:∀e',Q (.exit 4) e' h):
  ∀(m j:Nat) (env:Env),O.length-j=m→j≤O.length→aP env [(2,.fp [.fz k (pts L),.fz ko (pos O)] 0),(3,.fp [.fz k' (pts (L.map jl)),.fz Gc (pos O)] 0),(9,.int .i64 ((j:Nat):Int))]→
  VC fs ms B false (.loop jB) env h Q:=by
 intro m;induction m using Nat.strongRecOn with
 |ind m ih=>
 intro j env hm hj cH;have hp:=hf.EA;refine ak 4 _ cH ?_;refine bJ (aj true ?_);conv=>whnf
 repeat(first|(refine⟨_,rfl,?_⟩;conv=>whnf))
 rw[kG];refine br (fun hc=>?_) (fun hc=>?_)<;>(try rw[hc])<;>(conv=>whnf)
 ·have hlt:j<O.length:=by have:=of_decide_eq_true hc;omega
  refine aa (z:=true) ?_;conv=>whnf
  repeat(first|(refine⟨_,rfl,?_⟩;conv=>whnf))
  refine⟨_,wG hlt,?_⟩;conv=>whnf
  refine⟨po O[j],rfl,?_⟩;conv=>whnf
  refine⟨.fz Gc (pos O),rfl,?_⟩;conv=>whnf
  refine⟨_,wG hlt,?_⟩;conv=>whnf
  refine⟨po O[j],rfl,?_⟩;conv=>whnf
  refine sZ (W5 _) ?_;conv=>whnf
  exact ih (O.length-(j+1)) (by omega) (j+1) _ rfl (by omega) ⟨rfl,rfl,ay (by omega),trivial⟩
 ·have hge:j=O.length:=by have:=of_decide_eq_false hc;omega
  exact hQ _
theorem Qi(k ko k' Gc:Nat){L:List Pt}{O:List Po}(hf:Fits L O):PC fs ms 20 [cfg k L ko O,cfg k' (L.map jl) Gc O] (.bool true):=by
 refine aX (by simp[bL,oK]) rfl ?_;refine bw (af:=Xz) rfl (Nat.le_of_ble_eq_true rfl) ?_;generalize hQ:(fun(v:AV) (_:Heap)=>v=.bool true)=Q;have hk:∀h,Q (.bool true) h:=by subst hQ;intro h;rfl
 clear hQ;conv=>whnf
 refine aj false ?_;conv=>whnf
 refine dV [0] (i:=2) (v':=.fp [.fz k (pts L),.fz ko (pos O)] 0) rfl (.ptr' (by simp) rfl (.clean (by simp[cfg,AV.cells,bL,AV.cl,bz,fk]))) ?_;refine dV [1] (i:=3) (v':=.fp [.fz k' (pts (L.map jl)),.fz Gc (pos O)] 0) rfl (.ptr' (by simp) rfl (.clean (by simp[cfg,AV.cells,bL,AV.cl,bz,fk]))) ?_;refine ei 4 [(2,.fp [.fz k (pts L),.fz ko (pos O)] 0),(3,.fp [.fz k' (pts (L.map jl)),.fz Gc (pos O)] 0)] ⟨⟨_,rfl,.cl (by simp[AV.cl,bL,bz,fk])⟩,⟨_,rfl,.cl (by simp[AV.cl,bL,bz,fk])⟩,trivial⟩ ?_;refine az (aa (z:=false) ?_);conv=>whnf
 refine lY (by rw[bh,bh,List.length_map];exact q6 _) (fun hc=>?_)
 (try rw[hc])
 conv=>whnf
 refine lY (q6 _) (fun hc=>?_)
 (try rw[hc])
 conv=>whnf
 refine az (aj true ?_);conv=>whnf
 refine aL ?_;refine Qf (k:=k) (ko:=ko) (k':=k') (Gc:=Gc) hf (fun e' h' he=>?_) L.length 0 _ _ rfl (Nat.zero_le _) ⟨rfl,rfl,rfl,trivial⟩;show VC fs ms _ _ _ _ _ _;refine ak 4 _ he ?_;refine az (aj true ?_);conv=>whnf
 refine aL ?_;refine Qh (k:=k) (ko:=ko) (k':=k') (Gc:=Gc) hf (fun e'=>?_) O.length 0 _ rfl (Nat.zero_le _) ⟨rfl,rfl,rfl,trivial⟩;show VC fs ms _ _ _ _ _ _;refine ak 4 [] trivial (aa (z:=true) ?_);conv=>whnf
 exact hk _
end Ir
end Go.Proofs.Ytepdklcpagielaa
