/-
  Delay: tasks of partitions. Delay: Check of both. Delay: the document's Check. Delay: how long a task waits, of both. Delay: the document's wait; of; Wait of both. Delay: More of both. Delay: Of of both. Delay: what holds of partitions that may be asked.
-/
import Derived.Test.YtepdklcpagielaaVDem
import Derived.Test.YtepdklcpagielaaZA
set_option maxRecDepth 100000
set_option linter.unusedSimpArgs false
set_option linter.unusedVariables false
namespace Go.Proofs.Ytepdklcpagielaa
open Go Ads
namespace Ir
def vn(t:Tk)(B:Int):Bool:=decide (0≤t.b∧t.b≤t.w∧0≤t.c∧t.c≤4∧((t.c=0∧t.e=0∧t.f=0)∨(t.c≠0∧1≤t.e∧t.e≤B∧1≤t.f∧t.e*t.f≤t.w)))
theorem wT{t:Tk}(h:fc t=true):1≤t.w∧t.w≤t.d∧t.d≤t.p∧t.p≤64:=by simpa[fc] using h
theorem Tj(t:Tk)(B:Int)(h:fc t=true):PC fs ms 147 [tk t,.int .i64 B] (.bool (vn t B)):=by
 have hw:=wT h;have hdiv:1≤t.e→(t.f≤t.w/t.e↔t.e*t.f≤t.w):=fun he=>by
  rw[Int.le_ediv_iff_mul_le (by omega),Int.mul_comm]
 have hq:1≤t.e→IntKind.i64.wrap (t.w.tdiv t.e)=t.w/t.e:=fun he=>IntWalk.i64_quo _ _ (by omega);refine aX rfl rfl ?_;refine aC (af:=Ol) false rfl (Nat.le_of_ble_eq_true rfl) ?_;generalize hQ:(fun(v:AV) (_:Heap)=>v=.bool (vn t B))=Q;conv=>whnf
 iterate 10 (all_goals (first|(refine br (fun hc=>?_) (fun hc=>?_)<;>(try rw[hc])<;>(conv=>whnf))|skip))
 all_goals (try(refine⟨_,jU _ _ (by simp at*;omega),?_⟩;conv=>whnf;rw[hq (by simp at*;omega)]))
 all_goals (subst hQ;refine congrArg AV.bool ?_;rw[Bool.eq_iff_iff];simp[vn] at*;generalize t.e*t.f=P at*;generalize t.w/t.e=D at*;omega)
end Ir
end Go.Proofs.Ytepdklcpagielaa
set_option maxRecDepth 100000
set_option linter.unusedSimpArgs false
set_option linter.unusedVariables false
namespace Go.Proofs.Ytepdklcpagielaa
open Go Ads
namespace Ir
structure Pt where
 cJ:Int
 cn:Int
 k:Nat
 ts:List Tk
def pt(x:Pt):AV:=.agg [.int .i64 x.cJ,.int .i64 x.cn,.fz x.k (dI x.ts)]
def pts(l:List Pt):List AV:=l.map pt
theorem DF(x:Pt):(pt x).cl=true:=by simp[pt,AV.cl,bL,cq]
theorem bz(l:List Pt):bL (pts l)=true:=pZ (enc:=pt) DF l
theorem bh(l:List Pt):(pts l).length=l.length:=List.length_map ..
theorem gH{l:List Pt}{j k:Nat}(hj:j<l.length):pV (.aE 3) [.fz k (pts l),.int .i64 (j:Nat)]=some (.fp (pt l[j]).cells 0):=vf (enc:=pt) hj rfl
def nQ(x:Pt):Prop:=1≤x.cJ∧x.cJ≤64∧1≤x.cn∧x.cn≤x.cJ
instance(x:Pt):Decidable (nQ x):=by unfold nQ;infer_instance
def mG(x:Pt):Bool:=decide (nQ x)&&(dX x.ts&&x.ts.all fun t=>vn t x.cn)
def bG(l:List Pt):Int:=if l.length≤4∧l.all mG=true then 0 else 2
theorem Co{l:List Pt}{j:Nat}(hj:j<l.length)(h:mG l[j]=false):bG l=2:=by
 rw[bG,if_neg];rintro⟨_,x⟩;rw[List.all_eq_true] at x;rw[x _ (List.getElem_mem hj)] at h;exact absurd h (by decide)
def Small(l:List Pt):Prop:=l.length≤17592186044416∧∀x,x∈l→x.ts.length≤17592186044416
theorem Au(l:List Tk):eM l (List.replicate l.length 0)=if dX l=true then 0 else 2:=by
 have:(List.replicate l.length (0:Int)).any m5=false:=by
  rw[List.any_eq_false];intro m hm;rw[(List.mem_replicate.1 hm).2];decide
 unfold eM;by_cases h:dX l=true
 ·rw[if_pos ⟨this,h,by simp⟩,if_pos h]
 ·rw[if_neg (fun x=>h x.2.1),if_neg h]
theorem Kz(t:Tk)(x:Pt)(h:fc t=true):PC fs ms 146 [tk t,.fp (pt x).cells 0] (.bool (!vn t x.cn)):=by
 refine aX (by simp[bL,AV.cl,tk,pt,AV.cells,cq]) rfl ?_;refine aC (af:=Ok) false rfl (Nat.le_of_ble_eq_true rfl) ?_;generalize hQ:(fun(v:AV) (_:Heap)=>v=.bool (!vn t x.cn))=Q;conv=>whnf
 refine au (Tj t x.cn h) ?_;conv=>whnf
 subst hQ;rfl
theorem vW(k:Nat)(l:List Pt)(hs:Small l):PC fs ms 137 [.fz k (pts l)] (.int .i64 (bG l)):=by
 refine aX (by simp[bL,AV.cl,bz]) rfl ?_;refine aC (af:=Od) false rfl (Nat.le_of_ble_eq_true rfl) ?_;generalize hQ:(fun(v:AV) (_:Heap)=>v=.int .i64 (bG l))=Q;conv=>whnf
 refine br (fun hc=>?_) (fun hc=>?_)<;>(try rw[hc])<;>(conv=>whnf)
 ·subst hQ;have:=of_decide_eq_true hc;rw[bh] at this;rw[bG,if_neg (by omega)]
 ·have Zb:l.length≤4:=by
   have:=of_decide_eq_false hc;rw[bh] at this;omega
  refine ei 5 [(9,.fz k (pts l)),(10,.int .i64 (pts l).length),(11,.int .i64 ((0:Nat):Int))] (by repeat' (first|exact trivial|refine bI rfl (by omega) ?_|refine bg rfl (by omega) ?_|refine aR rfl (by omega) ?_|refine aJ rfl (by first|rfl|simp[bL,AV.cl,aS,bz]) ?_|refine aJ (ay (by omega)) rfl ?_)) ?_;refine fe 5 l.length (fun j=>(l.take j).all mG=true) (fun j=>[(9,.fz k (pts l)),(10,.int .i64 (pts l).length),(11,.int .i64 (j:Nat))]) ?_ ?_ rfl
  ·intro j hj hi;have hts:=hs.2 _ (List.getElem_mem hj);have ur:=fun h=>Co (l:=l) hj h;have ve:=fun h=>nD (p:=mG) hj hi h;have rG:=gH (k:=k) hj;generalize l[j]=x at*;conv=>whnf
   refine br (fun hc=>?_) (fun hc=>?_)<;>(try rw[hc])<;>(conv=>whnf)
   ·refine⟨_,rG,?_⟩;conv=>whnf
    by_cases hx:nQ x
    ·have hx':=hx;obtain⟨x1,x2,x3,x4⟩:=hx';refine lY (by simp;omega) (fun hc=>?_)
     (try rw[hc])
     conv=>whnf
     refine lY (by simp;omega) (fun hc=>?_)
     (try rw[hc])
     conv=>whnf
     refine lY (by simp;omega) (fun hc=>?_)
     (try rw[hc])
     conv=>whnf
     refine lY (by simp;omega) (fun hc=>?_)
     (try rw[hc])
     conv=>whnf
     refine⟨_,_,by rw[bM];exact CH (by omega),?_⟩;conv=>whnf
     refine ji (Ck x.k 2 x.ts (List.replicate x.ts.length 0) (by omega) (by simp;omega)) rfl (.cons (.clean (by simp[AV.cl,cq])) (.cons (.row (s:=1) trivial rfl (sS _).symm (lF _) (by simp[ints]) (Nat.le_refl _) (by omega) (fun _=>rfl) (fun _=>rfl) (aS _)) .nil)) ?_;rw[Au];by_cases ht:dX x.ts=true
     ·rw[if_pos ht];conv=>whnf
      have xP:∀t,t∈x.ts→fc t=true:=by
       simp only[dX,Bool.and_eq_true,List.all_eq_true] at ht;exact ht.1
      refine ji (DE (p:=fun t=>!vn t x.cn) (aN:=[.fp (pt x).cells 0]) x.k x.ts (by omega) (by simp[bL,AV.cl,pt,AV.cells,cq]) (fun t ht=>Kz t x (xP t ht))) rfl
       (.cons (.clean (by simp[AV.cl,cq])) (.cons (.func' .nil (.cons (.ptr' trivial rfl (.clean (l:=(pt x).cells) (cI (DF x)))) .nil)) .nil)) ?_
      cases ha:x.ts.any (fun t=>!vn t x.cn) with
      |true=>
       conv=>whnf
       subst hQ;rw[ur];rw[List.any_eq_true] at ha;obtain⟨t,h1,h2⟩:=ha;rw[mG,Bool.and_eq_false_iff,Bool.and_eq_false_iff];refine .inr (.inr ?_);rw[List.all_eq_false];exact⟨t,h1,by simpa using h2⟩
      |false=>
       conv=>whnf
       refine⟨ve ?_,(by repeat' (first|exact trivial|refine bI rfl (by omega) ?_|refine bg rfl (by omega) ?_|refine aR rfl (by omega) ?_|refine aJ rfl (by first|rfl|simp[bL,AV.cl,aS,bz]) ?_|refine aJ (ay (by omega)) rfl ?_))⟩;rw[List.any_eq_false] at ha;simp only[mG,decide_eq_true hx,ht,Bool.true_and];rw[List.all_eq_true];intro t h1;have:=ha t h1;simpa using this
     ·rw[if_neg ht];conv=>whnf
      subst hQ;rw[ur (by simp[mG,ht])]
    ·have hb:bG l=2:=ur (by simp[mG,hx]);unfold nQ at hx;iterate 5 (all_goals (first|(refine br (fun hc=>?_) (fun hc=>?_)<;>(try rw[hc])<;>(conv=>whnf))|skip))
     all_goals first
      |(subst hQ;rw[hb];done)
      |(exfalso;simp at*;omega)
   ·exfalso;have:=of_decide_eq_false hc;simp only[bh] at this;omega
  ·intro hi;rw[List.take_length] at hi;conv=>whnf
   refine br (fun hc=>?_) (fun hc=>?_)<;>(try rw[hc])<;>(conv=>whnf)
   ·exfalso;have:=of_decide_eq_true hc;simp only[bh] at this;omega
   ·subst hQ;rw[bG,if_pos ⟨Zb,hi⟩]
end Ir
end Go.Proofs.Ytepdklcpagielaa
set_option maxRecDepth 100000
set_option linter.unusedSimpArgs false
set_option linter.unusedVariables false
namespace Go.Proofs.Ytepdklcpagielaa
open Go Ads
namespace Ir
end Ir
end Go.Proofs.Ytepdklcpagielaa
set_option maxRecDepth 100000
set_option linter.unusedSimpArgs false
set_option linter.unusedVariables false
namespace Go.Proofs.Ytepdklcpagielaa
open Go Ads
namespace Ir
def Ia(x:Pt)(g:Int):Bool:=x.ts.any fun t=>t.c==g
def gY(l:List Pt)(a g:Int):Nat→Int
 |0=>0
 |j+1=>match l[j]? with
  |some x=>if(j:Int)≠a∧Ia x g=true then IntKind.i64.wrap (gY l a g j+IntKind.i64.wrap (2*x.cJ)) else gY l a g j
  |none=>gY l a g j
theorem uK{l:List Pt}{a g:Int}{j:Nat}(h:j<l.length):gY l a g (j+1)=if(j:Int)≠a∧Ia l[j] g=true then IntKind.i64.wrap (gY l a g j+IntKind.i64.wrap (2*l[j].cJ)) else gY l a g j:=by
 rw[gY,List.getElem?_eq_getElem h]
def sB(l:List Pt)(a:Int)(t:Tk):Int:=if t.c=0 then 0 else gY l a t.c l.length
def sn(x:Pt)(k:Nat)(l:List Pt)(a:Int):AV:=.agg [.int .i64 x.cJ,.int .i64 x.cn,.fz x.k (dI x.ts),.fz k (pts l),.int .i64 a]
theorem kC(x:Pt)(k:Nat)(l:List Pt)(a:Int):(sn x k l a).cl=true:=by simp[sn,AV.cl,bL,cq,bz]
theorem W1(t:Tk)(g:Int):PC fs ms 149 [tk t,.fp [.int .i64 g] 0] (.bool (t.c==g)):=by
 refine aX rfl rfl ?_;refine aC (af:=On) false rfl (Nat.le_of_ble_eq_true rfl) ?_;generalize hQ:(fun(v:AV) (_:Heap)=>v=.bool (t.c==g))=Q;conv=>whnf
 subst hQ;rfl
theorem JF(x:Pt)(k:Nat)(l:List Pt)(a g:Int):PC fs ms 138 [sn x k l a,.int .i64 g] (.func (.func 148) [] [.fp (sn x k l a).cells 0,.fp [.int .i64 g] 0]):=by
 refine⟨by simp[bL,AV.cl,kC],by simp[bL,AV.cl,cI (kC x k l a)],?_⟩;refine aC (af:=Oe) false rfl (Nat.le_of_ble_eq_true rfl) ?_;generalize hQ:(fun(u:AV) (h:Heap)=>jo (fun _=>True) h u (.func (.func 148) [] [.fp (sn x k l a).cells 0,.fp [.int .i64 g] 0]))=Q;conv=>whnf
 subst hQ;exact .func' .nil (.cons (.ptr' trivial rfl (.clean (l:=(sn x k l a).cells) (cI (kC x k l a)))) (.cons (.ptr' trivial rfl (.clean (l:=[.int .i64 g]) rfl)) .nil))
def wO:AC→AC
 |.seq a b=>match wO a with|.bad=>wO b|x=>x
 |.cond _ a b=>match wO a with|.bad=>wO b|x=>x
 |.block _ c=>wO c
 |.rangeFunc _ _ a _=>a
 |_=>.bad
def wQ:AC→AC
 |.seq a b=>match wQ a with|.bad=>wQ b|x=>x
 |.cond _ a b=>match wQ a with|.bad=>wQ b|x=>x
 |.block _ c=>wQ c
 |.rangeFunc _ _ _ b=>b
 |_=>.bad
def wA:AC:=wO Ii.body
def wB:AC:=wQ Ii.body
def wE(F:AV):Env:=ek 4 [(4,.ptr 0 0),(12,F)]
def wH(F:AV)(n:Int):Heap:=⟨2,.node (.node .nil (some (.loop 0 none (wE F) [13] wA wB)) .nil) (some (.cells [.int .i64 n] true 0)) .nil⟩
theorem GW(F:AV)(n:Int):wH F n=hk 2 [(0,.cells [.int .i64 n] true 0),(1,.loop 0 none (wE F) [13] wA wB)]:=yW _ _
theorem SZ(x:Pt)(k:Nat)(l:List Pt)(a g:Int){F:AV}(hF:F.cl=true)(hs:Small l):VD fs ms 148 [.yield 1,.fp (sn x k l a).cells 0,.fp [.int .i64 g] 0] (wH F 0) (fun _ h2=>h2=wH F (gY l a g l.length)):=by
 have Dg:=hs.1;refine aC (af:=Om) false rfl (Nat.le_of_ble_eq_true rfl) ?_;generalize hQ:(fun(v:AV) (h2:Heap)=>h2=wH F (gY l a g l.length))=Q;show mJ _ _ fun e=>tJ fs ms 2 false false _ e ⟨2,.node (.node .nil (some (.loop 0 none (wE F) [13] wA wB)) .nil) (some (.cells [.int .i64 0] true 0)) .nil⟩ _;conv=>whnf
 refine z8 (B:=2) (H:=wH F (gY l a g 0)) (d:=4) (l:=[(0,.yield 1),(1,.fp (sn x k l a).cells 0),(2,.fp [.int .i64 g] 0),(8,.fz k (pts l)),(9,.int .i64 (pts l).length),(10,.int .i64 ((0:Nat):Int))]) (yW _ _) id (by repeat' (first|exact trivial|refine bI rfl (by omega) ?_|refine bg rfl (by omega) ?_|refine aR rfl (by omega) ?_|refine aJ rfl (by first|rfl|simp[bL,AV.cl,aS,bz,cI (kC x k l a)]) ?_|refine aJ (ay (by omega)) rfl ?_))
  ⟨by omega,⟨_,rfl,ep rfl rfl⟩,by omega,⟨_,rfl,pN (by simp;exact⟨.ptr (by omega),.cl hF⟩)⟩,trivial⟩ (by intro b c hb hc h;exact h) (fun b hb=>rfl) (Nat.le_refl _) ?_
 refine o9 2 4 l.length (fun _=>True) (fun j=>[(0,.yield 1),(1,.fp (sn x k l a).cells 0),(2,.fp [.int .i64 g] 0),(8,.fz k (pts l)),(9,.int .i64 (pts l).length),(10,.int .i64 (j:Nat))]) (fun j=>wH F (gY l a g j)) ?_ ?_ trivial
 ·intro j hj _;have hts:=hs.2 _ (List.getElem_mem hj);have hn:=uK (a:=a) (g:=g) hj;have rG:=gH (k:=k) hj;generalize l[j]=y at*;show tJ fs ms 2 false false _ (ek 4 _) ⟨2,.node (.node .nil (some (.loop 0 none (wE F) [13] wA wB)) .nil) (some (.cells [.int .i64 (gY l a g j)] true 0)) .nil⟩ _;generalize gY l a g j=n at*;conv=>whnf
  refine br (fun hc=>?_) (fun hc=>?_)<;>(try rw[hc])<;>(conv=>whnf)
  ·refine⟨_,rG,?_⟩;conv=>whnf
   refine ji (DE (p:=fun t=>t.c==g) (aN:=[.fp [.int .i64 g] 0]) y.k y.ts (by omega) rfl (fun t _=>W1 t g)) rfl (.cons (.clean (by simp[AV.cl,cq])) (.cons (.clean rfl) .nil)) ?_;cases hu:(y.ts.any fun t=>t.c==g) with
   |false=>
    conv=>whnf
    rw[if_neg (by rintro⟨_,z⟩;rw[Ia,hu] at z;exact absurd z (by decide))] at hn;iterate 2 (all_goals (first|(refine br (fun hc=>?_) (fun hc=>?_)<;>(try rw[hc])<;>(conv=>whnf))|skip))
    all_goals (refine⟨trivial,id,wh (H:=wH F (gY l a g (j+1))) ((congrArg (wH F) hn).trans (GW _ _)) _ (by repeat' (first|exact trivial|refine bI rfl (by omega) ?_|refine bg rfl (by omega) ?_|refine aR rfl (by omega) ?_|refine aJ rfl (by first|rfl|simp[bL,AV.cl,aS,bz,cI (kC x k l a)]) ?_|refine aJ (ay (by omega)) rfl ?_)) ⟨by omega,⟨_,rfl,ep rfl rfl⟩,by omega,⟨_,rfl,pN (by simp;exact⟨.ptr (by omega),.cl hF⟩)⟩,trivial⟩ (by intro b c hb hc h;exact h) (fun b hb=>rfl) (Nat.le_refl _)⟩)
   |true=>
    conv=>whnf
    by_cases Ut:(j:Int)≠a
    ·rw[if_pos ⟨Ut,hu⟩] at hn;refine kO (by simpa using Ut) (fun hc=>?_)
     (try rw[hc])
     conv=>whnf
     refine z9 rfl rfl ?_;refine aa (z:=false) ?_;conv=>whnf
     refine⟨rfl,none,rfl,?_⟩;refine aa (z:=false) ?_;conv=>whnf
     refine⟨by simp,⟨1,none,rfl⟩,?_⟩;conv=>whnf
     refine⟨trivial,id,wh (H:=wH F (gY l a g (j+1))) ((congrArg (wH F) hn).trans (GW _ _)) _ (by repeat' (first|exact trivial|refine bI rfl (by omega) ?_|refine bg rfl (by omega) ?_|refine aR rfl (by omega) ?_|refine aJ rfl (by first|rfl|simp[bL,AV.cl,aS,bz,cI (kC x k l a)]) ?_|refine aJ (ay (by omega)) rfl ?_)) ⟨by omega,⟨_,rfl,ep rfl rfl⟩,by omega,⟨_,rfl,pN (by simp;exact⟨.ptr (by omega),.cl hF⟩)⟩,trivial⟩ (by intro b c hb hc h;exact h) (fun b hb=>rfl) (Nat.le_refl _)⟩
    ·rw[if_neg (fun z=>Ut z.1)] at hn;refine lY (by simpa using Ut) (fun hc=>?_)
     (try rw[hc])
     conv=>whnf
     refine⟨trivial,id,wh (H:=wH F (gY l a g (j+1))) ((congrArg (wH F) hn).trans (GW _ _)) _ (by repeat' (first|exact trivial|refine bI rfl (by omega) ?_|refine bg rfl (by omega) ?_|refine aR rfl (by omega) ?_|refine aJ rfl (by first|rfl|simp[bL,AV.cl,aS,bz,cI (kC x k l a)]) ?_|refine aJ (ay (by omega)) rfl ?_)) ⟨by omega,⟨_,rfl,ep rfl rfl⟩,by omega,⟨_,rfl,pN (by simp;exact⟨.ptr (by omega),.cl hF⟩)⟩,trivial⟩ (by intro b c hb hc h;exact h) (fun b hb=>rfl) (Nat.le_refl _)⟩
  ·exfalso;have:=of_decide_eq_false hc;simp only[bh] at this;omega
 ·intro _;show tJ fs ms 2 false false _ (ek 4 _) ⟨2,.node (.node .nil (some (.loop 0 none (wE F) [13] wA wB)) .nil) (some (.cells [.int .i64 (gY l a g l.length)] true 0)) .nil⟩ _;generalize hn:gY l a g l.length=n at*;conv=>whnf
  refine lY (by rw[bh];simp) (fun hc=>?_)
  (try rw[hc])
  conv=>whnf
  subst hQ;rfl
theorem Ic(x:Pt)(k:Nat)(l:List Pt)(a:Int)(t:Tk)(hs:Small l):PC fs ms 125 [sn x k l a,tk t] (.int .i64 (sB l a t)):=by
 refine aX (by simp[bL,kC];rfl) rfl ?_;refine aC (af:=Ii) false rfl (Nat.le_of_ble_eq_true rfl) ?_;generalize hQ:(fun(v:AV) (_:Heap)=>v=.int .i64 (sB l a t))=Q;conv=>whnf
 refine br (fun hc=>?_) (fun hc=>?_)<;>(try rw[hc])<;>(conv=>whnf)
 ·subst hQ;simp at hc;rw[sB,if_pos hc]
 ·refine au (JF x k l a t.c) ?_;conv=>whnf
  refine z8 (B:=0) (d:=4) (l:=[(4,.ptr 0 0),(12,.func (.func 148) [] [.fp (sn x k l a).cells 0,.fp [.int .i64 t.c] 0])]) (FX (.cells [.int .i64 0] true 0)) (fun b=>2) (by repeat' (first|exact trivial|refine bI rfl (by omega) ?_|refine bg rfl (by omega) ?_|refine aR rfl (by omega) ?_|refine aJ rfl (by first|rfl|simp[bL,AV.cl,aS,cI (kC x k l a)]) ?_|refine aJ (ay (by omega)) rfl ?_)) ⟨by omega,⟨_,rfl,ep rfl rfl⟩,trivial⟩ (by intro b c hb hc _;simp at hb hc;omega) (by intro b hb;omega) (by omega) ?_;show VC fs ms 0 false (.rangeFunc (.t 12) [13] wA wB) _ _ _;refine E1 rfl rfl ?_;have hF:(AV.func (.func 148) [] [.fp (sn x k l a).cells 0,.fp [.int .i64 t.c] 0]).cl=true:=by simp[bL,AV.cl,cI (kC x k l a)]
  refine VD.mono (SZ x k l a t.c hF hs) fun v h2 h=>?_;subst h;refine⟨.normal,0,rfl,by decide,by simp,?_⟩;conv=>whnf
  subst hQ;simp at hc;rw[sB,if_neg hc]
end Ir
end Go.Proofs.Ytepdklcpagielaa
set_option maxRecDepth 100000
set_option linter.unusedSimpArgs false
set_option linter.unusedVariables false
namespace Go.Proofs.Ytepdklcpagielaa
open Go Ads
namespace Ir
theorem YF{α:Type}{l:List α}{p:α→Bool}{j:Nat}(hj:j<l.length)(h:p l[j]=true):l.any p=true:=List.any_eq_true.2 ⟨l[j],List.getElem_mem hj,h⟩
theorem UN{α:Type}{l:List α}{p:α→Bool}{j:Nat}(hj:j<l.length)(hi:(l.take j).any p=false)(h:p l[j]=false):(l.take (j+1)).any p=false:=by
 rw[eY hj,List.any_append,hi];simp[h]
theorem w9(l:List Pt):bG l=0∨bG l=2:=by unfold bG;split<;>simp
def Zu:AV:=.agg [.int .i64 0,.int .i64 0,.aD,.aD,.int .i64 0]
def pr9(p:Int×Int):AV:=.cQ [.int .i64 p.1,.int .i64 p.2]
theorem Ms(k:Nat)(l:List Pt)(a:Int)(hs:Small l)(h:bG l=2):PC fs ms 124 [.fz k (pts l),.int .i64 a] (.cQ [Zu,.int .i64 2]):=by
 refine aX (by simp[bL,AV.cl,bz]) rfl ?_;refine aC (af:=Ih) false rfl (Nat.le_of_ble_eq_true rfl) ?_;generalize hQ:(fun(v:AV) (_:Heap)=>v=.cQ [Zu,.int .i64 2])=Q;conv=>whnf
 refine au (vW k l hs) ?_;rw[h];conv=>whnf
 subst hQ;rfl
theorem Mt(k:Nat)(l:List Pt)(a:Int)(hs:Small l)(h:bG l=0)(ha:a<0∨l.length≤a):PC fs ms 124 [.fz k (pts l),.int .i64 a] (.cQ [Zu,.int .i64 9]):=by
 refine aX (by simp[bL,AV.cl,bz]) rfl ?_;refine aC (af:=Ih) false rfl (Nat.le_of_ble_eq_true rfl) ?_;generalize hQ:(fun(v:AV) (_:Heap)=>v=.cQ [Zu,.int .i64 9])=Q;conv=>whnf
 refine au (vW k l hs) ?_;rw[h];conv=>whnf
 by_cases h0:a<0
 ·refine kO (by simp;omega) (fun hc=>?_)
  (try rw[hc])
  conv=>whnf
  subst hQ;rfl
 ·refine lY (by simp;omega) (fun hc=>?_)
  (try rw[hc])
  conv=>whnf
  refine kO (by rw[bh];simp;omega) (fun hc=>?_)
  (try rw[hc])
  conv=>whnf
  subst hQ;rfl
theorem Rn(k:Nat)(l:List Pt)(i:Nat)(hs:Small l)(h:bG l=0)(hi:i<l.length):PC fs ms 124 [.fz k (pts l),.int .i64 (i:Nat)] (.cQ [sn l[i] k l (i:Nat),.int .i64 0]):=by
 refine aX (by simp[bL,AV.cl,bz]) (by simp[bL,AV.cl,kC]) ?_;refine aC (af:=Ih) false rfl (Nat.le_of_ble_eq_true rfl) ?_;generalize hQ:(fun(v:AV) (_:Heap)=>v=.cQ [sn l[i] k l (i:Nat),.int .i64 0])=Q;conv=>whnf
 refine au (vW k l hs) ?_;rw[h];conv=>whnf
 refine lY (by rw[bh];simp;omega) (fun hc=>?_)
 (try rw[hc])
 conv=>whnf
 refine⟨_,gH hi,?_⟩;conv=>whnf
 subst hQ;rfl
def acT(l:List Pt)(a n:Int):Int×Int:=if bG l=2 then(0,2) else if a<0 then(0,9) else match l[a.toNat]? with
 |none=>(0,9)
 |some x=>if n<0 then(0,9) else match x.ts[n.toNat]? with
  |none=>(0,9)
  |some t=>(sB l a t,0)
theorem acu{l:List Pt}(h:bG l=0){x:Pt}(hx:x∈l){t:Tk}(ht:t∈x.ts):nQ x∧fc t=true∧vn t x.cn=true:=by
 unfold bG at h;split at h
 ·rename_i hh;have:=List.all_eq_true.1 hh.2 x hx;simp only[mG,Bool.and_eq_true,decide_eq_true_eq,List.all_eq_true,dX] at this;exact⟨this.1,this.2.1.1 t ht,this.2.2 t ht⟩
 ·simp at h
theorem PG{t:Tk}{B:Int}(h:vn t B=true):0≤t.b∧t.b≤t.w∧0≤t.c∧t.c≤4∧((t.c=0∧t.e=0∧t.f=0)∨(t.c≠0∧1≤t.e∧t.e≤B∧1≤t.f∧t.e*t.f≤t.w)):=by simpa[vn] using h
end Ir
end Go.Proofs.Ytepdklcpagielaa
set_option maxRecDepth 100000
set_option linter.unusedSimpArgs false
set_option linter.unusedVariables false
namespace Go.Proofs.Ytepdklcpagielaa
open Go Ads
namespace Ir
def oA(l:List Pt)(a:Int)(t:Tk):Int:=IntKind.i64.wrap (t.f*IntKind.i64.wrap (IntKind.i64.wrap (sB l a t+t.e)-1))
def pJ(l:List Pt)(i:Nat):List Int:=match l[i]? with
 |some x=>x.ts.map (oA l (i:Nat))
 |none=>[]
def acS(l:List Pt)(a:Int):List Int×Int:=if bG l=2 then([],2) else if a<0∨l.length≤a then([],9) else(pJ l a.toNat,0)
def Tz(k:Nat)(p:List Int×Int):AV:=.cQ [.fz k (ints p.1),.int .i64 p.2]
def Mg(ts:List Int)(j:Nat):Heap:=⟨1,.node .nil (some (.cells (ints (kf ts j)) true 0)) .nil⟩
theorem Mh{k:Nat}{l:List Pt}{a:Int}(hs:Small l)(h:bG l=2):PC fs ms 113 [.fz k (pts l),.int .i64 a] (Tz 3 ([],2)):=by
 refine⟨by simp[bL,AV.cl,bz],rfl,?_⟩;refine aC (af:=Ig) false rfl (Nat.le_of_ble_eq_true rfl) ?_;generalize hQ:(fun(v:AV) (g:Heap)=>jo (fun _=>True) g v (Tz 3 ([],2)))=Q;conv=>whnf
 refine au (Ms k l a hs h) ?_;conv=>whnf
 subst hQ;exact .TM (.cons .aD (.cons (.clean rfl) .nil))
theorem Mi{k:Nat}{l:List Pt}{a:Int}(hs:Small l)(h:bG l=0)(ha:a<0∨l.length≤a):PC fs ms 113 [.fz k (pts l),.int .i64 a] (Tz 3 ([],9)):=by
 refine⟨by simp[bL,AV.cl,bz],rfl,?_⟩;refine aC (af:=Ig) false rfl (Nat.le_of_ble_eq_true rfl) ?_;generalize hQ:(fun(v:AV) (g:Heap)=>jo (fun _=>True) g v (Tz 3 ([],9)))=Q;conv=>whnf
 refine au (Mt k l a hs h ha) ?_;conv=>whnf
 subst hQ;exact .TM (.cons .aD (.cons (.clean rfl) .nil))
theorem PK{k:Nat}{l:List Pt}{i:Nat}(hs:Small l)(h:bG l=0)(hi:i<l.length):PC fs ms 113 [.fz k (pts l),.int .i64 (i:Nat)] (Tz 2 (pJ l i,0)):=by
 refine⟨by simp[bL,AV.cl,bz],by simp[Tz,bL,AV.cl,aS],?_⟩;refine aC (af:=Ig) false rfl (Nat.le_of_ble_eq_true rfl) ?_;have hts:=hs.2 _ (List.getElem_mem hi);have hM:pJ l i=l[i].ts.map (oA l (i:Nat)):=by rw[pJ,List.getElem?_eq_getElem hi]
 have Uw:=Rn k l i hs h hi;rw[hM];generalize l[i]=x at*;generalize hQ:(fun(v:AV) (g:Heap)=>jo (fun _=>True) g v (Tz 2 (x.ts.map (oA l (i:Nat)),0)))=Q;conv=>whnf
 refine au Uw ?_;conv=>whnf
 refine⟨_,_,by rw[bM];exact CH (by omega),?_⟩;conv=>whnf
 have hlen:(x.ts.map (oA l (i:Nat))).length=x.ts.length:=by simp
 have cS:∀(j:Nat) (h1:j<x.ts.length) (h2:j<(x.ts.map (oA l (i:Nat))).length),oA l (i:Nat) x.ts[j]=(x.ts.map (oA l (i:Nat)))[j]:=fun j h1 h2=>by simp
 generalize x.ts.map (oA l (i:Nat))=M at*;refine dV [0] (i:=6) (v':=.fp (sn x k l (i:Nat)).cells 0) rfl (.ptr' (by simp) rfl (.clean (l:=(sn x k l (i:Nat)).cells) (cI (kC x k l (i:Nat))))) ?_;refine z8 (B:=0) (H:=Mg M 0) (d:=5) (l:=[(6,.fp (sn x k l (i:Nat)).cells 0),(8,.sl 0 0 x.ts.length x.ts.length false),(27,.fz x.k (dI x.ts)),(28,.int .i64 (dI x.ts).length),(29,.int .i64 ((0:Nat):Int))]) (FX _) (fun b=>1) (by repeat' (first|exact trivial|refine bI rfl (by omega) ?_|refine bg rfl (by omega) ?_|refine aR rfl (by omega) ?_|refine aJ rfl (by first|rfl|simp[bL,AV.cl,aS,cq,cI (kC x k l (i:Nat))]) ?_|refine aJ (ay (by omega)) rfl ?_)) ⟨by omega,⟨_,rfl,tj (by rw[Bn,hlen])⟩,trivial⟩ (by intro b c hb hc _;simp at hb hc;omega) (by intro b hb;omega) (by omega) ?_;refine o9 0 5 x.ts.length (fun _=>True) (fun j=>[(6,.fp (sn x k l (i:Nat)).cells 0),(8,.sl 0 0 x.ts.length x.ts.length false),(27,.fz x.k (dI x.ts)),(28,.int .i64 (dI x.ts).length),(29,.int .i64 (j:Nat))]) (Mg M) ?_ ?_ trivial
 ·intro j hj _;have hg:=cS j hj (by omega);show tJ fs ms 0 false false _ _ ⟨1,.node .nil (some (.cells (ints (kf M j)) true 0)) .nil⟩ _;conv=>whnf
  refine kO (by rw[bM];simp;omega) (fun hc=>?_)
  (try rw[hc])
  conv=>whnf
  refine⟨_,iP hj,?_⟩;conv=>whnf
  refine au (Ic x k l (i:Nat) x.ts[j] hs) ?_;conv=>whnf
  refine⟨_,LO hj,?_⟩;conv=>whnf
  refine brT (by show(Nat.ble (j+1) (ints (kf M j)).length&&true)=true;rw[cu,rM M (by omega),hlen,Bool.and_true];exact Nat.ble_eq_true_of_le (by omega)) ?_;conv=>whnf
  refine⟨dc (by(conv=>whnf);repeat' (first|exact trivial|(exact⟨rfl,rfl,.inr ⟨_,_,rfl⟩⟩)|(refine⟨rfl,rfl,.inl ⟨rfl,fun o ho=>?_⟩⟩;cases ho;first|rfl)|(exact⟨rfl,.inr ⟨_,_,rfl⟩⟩)|(refine⟨rfl,.inl ⟨rfl,fun i o hi ho=>?_⟩⟩;cases hi;cases ho;first|rfl)|(refine And.intro (fun dZ=>(Bool.false_ne_true dZ).elim) ?_<;>conv=>whnf)|(refine And.intro (fun _=>?_) ?_<;>conv=>whnf)|(refine And.intro ?_ ?_<;>conv=>whnf))),?_⟩;conv=>whnf
  exact⟨trivial,id,wh (H:=Mg M (j+1)) (FX _) _ (by repeat' (first|exact trivial|refine bI rfl (by omega) ?_|refine bg rfl (by omega) ?_|refine aR rfl (by omega) ?_|refine aJ rfl (by first|rfl|simp[bL,AV.cl,aS,cq,cI (kC x k l (i:Nat))]) ?_|refine aJ (ay (by omega)) rfl ?_)) ⟨by omega,⟨_,rfl,tj (DT M (by omega) hg)⟩,trivial⟩ (by intro b c hb hc _;simp at hb hc;omega) (by intro b hb;omega) (by omega)⟩
 ·intro _;show tJ fs ms 0 false false _ _ ⟨1,.node .nil (some (.cells (ints (kf M x.ts.length)) true 0)) .nil⟩ _;conv=>whnf
  refine lY (by rw[bM];simp) (fun hc=>?_)
  (try rw[hc])
  conv=>whnf
  subst hQ;rw[←hlen,DR];exact .TM (.cons (.row (s:=1) trivial rfl (sS M).symm (lF M) (by rw[cu]) (Nat.le_refl _) (by omega) (fun _=>rfl) (fun _=>rfl) (aS M)) (.cons (.clean rfl) .nil))
end Ir
end Go.Proofs.Ytepdklcpagielaa
set_option maxRecDepth 100000
set_option linter.unusedSimpArgs false
set_option linter.unusedVariables false
namespace Go.Proofs.Ytepdklcpagielaa
open Go Ads
namespace Ir
def mx(a b:Int):Int:=cond (decide (b>a)) b a
theorem rO(a b:Int):mx a b=max a b:=by
 unfold mx;by_cases h:b>a
 ·rw[decide_eq_true h,cond_true];omega
 ·rw[decide_eq_false h,cond_false];omega
def Ac(l:List Pt)(a:Int)(t:Tk):Int:=IntKind.i64.wrap (IntKind.i64.wrap (sB l a t+IntKind.i64.wrap (2*t.e))-1)
def q7(l:List Pt)(a:Int)(t:Tk):Int:=if t.c=0 then t.b else mx t.b (Ac l a t)
def Ak(l:List Pt)(a n:Int)(ts:List Tk):Nat→Int
 |0=>0
 |j+1=>match ts[j]? with
  |some t=>if t.d>n then mx (Ak l a n ts j) (q7 l a t) else Ak l a n ts j
  |none=>Ak l a n ts j
theorem pK{l:List Pt}{a n:Int}{ts:List Tk}{j:Nat}(h:j<ts.length):Ak l a n ts (j+1)=if ts[j].d>n then mx (Ak l a n ts j) (q7 l a ts[j]) else Ak l a n ts j:=by
 rw[Ak,List.getElem?_eq_getElem h]
def xL(l:List Pt)(a n:Int):Int×Int:=if bG l=2 then(0,2) else if a<0 then(0,9) else match l[a.toNat]? with
 |none=>(0,9)
 |some x=>if n<0 then(0,2) else(Ak l a n x.ts x.ts.length,0)
theorem aaD(x:Pt)(k:Nat)(l:List Pt)(a:Int)(t:Tk)(hs:Small l):PC fs ms 145 [sn x k l a,tk t] (.int .i64 (q7 l a t)):=by
 refine aX (by simp[bL,kC];rfl) rfl ?_;refine aC (af:=Oj) false rfl (Nat.le_of_ble_eq_true rfl) ?_;generalize hQ:(fun(v:AV) (_:Heap)=>v=.int .i64 (q7 l a t))=Q;conv=>whnf
 by_cases hc0:t.c=0
 ·refine kO (by simp[hc0]) (fun hc=>?_)
  (try rw[hc])
  conv=>whnf
  subst hQ;rw[q7,if_pos hc0]
 ·refine lY (by simp[hc0]) (fun hc=>?_)
  (try rw[hc])
  conv=>whnf
  refine au (Ic x k l a t hs) ?_;conv=>whnf
  refine⟨dc (by(conv=>whnf);repeat' (first|exact trivial|(exact⟨rfl,rfl,.inr ⟨_,_,rfl⟩⟩)|(refine⟨rfl,rfl,.inl ⟨rfl,fun o ho=>?_⟩⟩;cases ho;first|rfl)|(exact⟨rfl,.inr ⟨_,_,rfl⟩⟩)|(refine⟨rfl,.inl ⟨rfl,fun i o hi ho=>?_⟩⟩;cases hi;cases ho;first|rfl)|(refine And.intro (fun dZ=>(Bool.false_ne_true dZ).elim) ?_<;>conv=>whnf)|(refine And.intro (fun _=>?_) ?_<;>conv=>whnf)|(refine And.intro ?_ ?_<;>conv=>whnf))),?_⟩;conv=>whnf
  subst hQ;rw[q7,if_neg hc0];rfl
theorem RJ(k:Nat)(l:List Pt)(a n:Int)(hs:Small l):PC fs ms 136 [.fz k (pts l),.int .i64 a,.int .i64 n] (.cQ [.int .i64 (xL l a n).1,.int .i64 (xL l a n).2]):=by
 refine aX (by simp[bL,AV.cl,bz]) rfl ?_;refine aC (af:=Oc) false rfl (Nat.le_of_ble_eq_true rfl) ?_;generalize hQ:(fun(v:AV) (_:Heap)=>v=.cQ [.int .i64 (xL l a n).1,.int .i64 (xL l a n).2])=Q;conv=>whnf
 rcases w9 l with h|h
 ·by_cases ha:a<0∨l.length≤a
  ·refine au (Mt k l a hs h ha) ?_;conv=>whnf
   subst hQ;rw[xL,if_neg (by omega)];by_cases h0:a<0
   ·rw[if_pos h0]
   ·rw[if_neg h0,List.getElem?_eq_none (by omega)]
  ·obtain⟨i,rfl⟩:=Int.eq_ofNat_of_zero_le (show 0≤a by omega);have hi:i<l.length:=by omega
   have Zg:((i:Int)).toNat=i:=rfl;have Uw:=Rn k l i hs h hi;have hts:=hs.2 _ (List.getElem_mem hi);have hd:xL l (i:Nat) n=if n<0 then(0,2) else(Ak l (i:Nat) n l[i].ts l[i].ts.length,0):=by
    rw[xL,if_neg (by omega),if_neg (by omega),Zg,List.getElem?_eq_getElem hi]
   refine au Uw ?_;clear Uw;generalize l[i]=x at*;conv=>whnf
   by_cases h0:n<0
   ·refine kO (by simp;omega) (fun hc=>?_)
    (try rw[hc])
    conv=>whnf
    subst hQ;rw[hd,if_pos h0]
   ·refine lY (by simp;omega) (fun hc=>?_)
    (try rw[hc])
    conv=>whnf
    rw[if_neg h0] at hd;refine dV [0] (i:=8) (v':=.fp (sn x k l (i:Nat)).cells 0) rfl (.ptr' (by simp) rfl (.clean (l:=(sn x k l (i:Nat)).cells) (cI (kC x k l (i:Nat))))) ?_;refine ei 5 [(2,.int .i64 n),(6,.int .i64 (Ak l (i:Nat) n x.ts 0)),(8,.fp (sn x k l (i:Nat)).cells 0),(26,.fz x.k (dI x.ts)),(27,.int .i64 (dI x.ts).length),(28,.int .i64 ((0:Nat):Int))] (by repeat' (first|exact trivial|refine bI rfl (by omega) ?_|refine bg rfl (by omega) ?_|refine aR rfl (by omega) ?_|refine aJ rfl (by first|rfl|simp[bL,AV.cl,aS,cq,cI (kC x k l (i:Nat))]) ?_|refine aJ (ay (by omega)) rfl ?_)) ?_;refine fe 5 x.ts.length (fun _=>True) (fun j=>[(2,.int .i64 n),(6,.int .i64 (Ak l (i:Nat) n x.ts j)),(8,.fp (sn x k l (i:Nat)).cells 0),(26,.fz x.k (dI x.ts)),(27,.int .i64 (dI x.ts).length),(28,.int .i64 (j:Nat))]) ?_ ?_ trivial
    ·intro j hj _;have hn:=pK (l:=l) (a:=(i:Nat)) (n:=n) hj;have hidx:=iP (k:=x.k) hj;generalize x.ts[j]=t at*;show tJ fs ms 0 false false _ (ek 5 [(2,.int .i64 n),(6,.int .i64 (Ak l (i:Nat) n x.ts j)),(8,.fp (sn x k l (i:Nat)).cells 0),(26,.fz x.k (dI x.ts)),(27,.int .i64 (dI x.ts).length),(28,.int .i64 (j:Nat))]) _ _;generalize Ak l (i:Nat) n x.ts j=m at*;conv=>whnf
     refine kO (by rw[bM];simp;omega) (fun hc=>?_)
     (try rw[hc])
     conv=>whnf
     refine⟨_,hidx,?_⟩;conv=>whnf
     by_cases hdn:t.d>n
     ·rw[if_pos hdn] at hn;refine kO (by simp;omega) (fun hc=>?_)
      (try rw[hc])
      conv=>whnf
      refine au (aaD x k l (i:Nat) t hs) ?_;conv=>whnf
      refine⟨trivial,⟨_,rfl,.cl rfl⟩,⟨_,congrArg (fun b=>some (AV.int .i64 b)) hn.symm,.cl rfl⟩,⟨_,rfl,.cl (by simp[AV.cl,cI (kC x k l (i:Nat))])⟩,⟨_,rfl,.cl (by simp[AV.cl,cq])⟩,⟨_,rfl,.cl rfl⟩,⟨_,ay (by omega),.cl rfl⟩,trivial⟩
     ·rw[if_neg hdn] at hn;refine lY (by simp;omega) (fun hc=>?_)
      (try rw[hc])
      conv=>whnf
      refine⟨trivial,⟨_,rfl,.cl rfl⟩,⟨_,congrArg (fun b=>some (AV.int .i64 b)) hn.symm,.cl rfl⟩,⟨_,rfl,.cl (by simp[AV.cl,cI (kC x k l (i:Nat))])⟩,⟨_,rfl,.cl (by simp[AV.cl,cq])⟩,⟨_,rfl,.cl rfl⟩,⟨_,ay (by omega),.cl rfl⟩,trivial⟩
    ·intro _;conv=>whnf
     refine lY (by rw[bM];simp) (fun hc=>?_)
     (try rw[hc])
     conv=>whnf
     subst hQ;rw[hd]
 ·refine au (Ms k l a hs h) ?_;conv=>whnf
  subst hQ;rw[xL,if_pos h]
end Ir
end Go.Proofs.Ytepdklcpagielaa
set_option maxRecDepth 100000
set_option linter.unusedSimpArgs false
set_option linter.unusedVariables false
namespace Go.Proofs.Ytepdklcpagielaa
open Go Ads
namespace Ir
theorem vt{l:List Pt}(h:bG l=0):l.length≤4∧∀x,x∈l→nQ x∧x.ts.length≤4∧∀t,t∈x.ts→fc t=true∧vn t x.cn=true:=by
 unfold bG at h;split at h
 ·rename_i h1;refine⟨h1.1,fun x hx=>?_⟩;have h2:=List.all_eq_true.1 h1.2 x hx;simp only[mG,Bool.and_eq_true,dX,List.all_eq_true] at h2;exact⟨of_decide_eq_true h2.1,of_decide_eq_true h2.2.1.2,fun t ht=>⟨h2.2.1.1 t ht,h2.2.2 t ht⟩⟩
 ·omega
theorem Ad{l:List Pt}(h:bG l=0)(a g:Int):∀j,j≤l.length→0≤gY l a g j∧gY l a g j≤128*j
 |0,_=>by simp[gY]
 |j+1,hj=>by
  have ih:=Ad h a g j (by omega);have hl:=(vt h).1;have hp:=((vt h).2 _ (List.getElem_mem (show j<l.length by omega))).1;unfold nQ at hp;rw[uK (show j<l.length by omega)];split
  ·rw[IntWalk.i64_in (2*_) (by omega),IntWalk.i64_in _ (by omega)];omega
  ·omega
theorem UF{l:List Pt}(h:bG l=0)(a g:Int)(j:Nat)(hj:j<l.length):gY l a g (j+1)=if(j:Int)≠a∧Ia l[j] g=true then gY l a g j+2*l[j].cJ else gY l a g j:=by
 have ih:=Ad h a g j (by omega);have hl:=(vt h).1;have hp:=((vt h).2 _ (List.getElem_mem (show j<l.length by omega))).1;unfold nQ at hp;rw[uK (show j<l.length by omega)];split
 ·rw[IntWalk.i64_in (2*_) (by omega),IntWalk.i64_in _ (by omega)]
 ·rfl
theorem E3{l:List Pt}(h:bG l=0)(a:Int)(t:Tk):0≤sB l a t∧sB l a t≤512:=by
 unfold sB;split
 ·omega
 ·have:=Ad h a t.c l.length (Nat.le_refl _);have hl:=(vt h).1;omega
theorem E2{l:List Pt}(h:bG l=0)(a:Int)(t:Tk)(he:0≤t.e∧t.e≤64):Ac l a t=sB l a t+2*t.e-1:=by
 have:=E3 h a t;unfold Ac;rw[IntWalk.i64_in (2*_) (by omega),IntWalk.i64_in (_+_) (by omega),IntWalk.i64_in _ (by omega)]
theorem Rs{l:List Pt}(h:bG l=0){x:Pt}(hx:x∈l){t:Tk}(ht:t∈x.ts):(1≤t.w∧t.w≤t.d∧t.d≤t.p∧t.p≤64)∧0≤t.b∧t.b≤t.w∧0≤t.c∧t.c≤4∧((t.c=0∧t.e=0∧t.f=0)∨(t.c≠0∧1≤t.e∧t.e≤x.cn∧1≤t.f∧t.e*t.f≤t.w)):=
 ⟨wT (((vt h).2 x hx).2.2 t ht).1,PG (((vt h).2 x hx).2.2 t ht).2⟩
theorem aaI{l:List Pt}(h:bG l=0){x:Pt}(hx:x∈l){t:Tk}(ht:t∈x.ts):0≤t.e∧t.e≤64:=by
 have h1:=Rs h hx ht;have h2:=((vt h).2 x hx).1;unfold nQ at h2;omega
theorem UW{l:List Pt}(h:bG l=0)(a:Int){x:Pt}(hx:x∈l){t:Tk}(ht:t∈x.ts):0≤q7 l a t∧t.b≤q7 l a t∧t.e≤q7 l a t:=by
 have h1:=Rs h hx ht;have h2:=aaI h hx ht;have h3:=E3 h a t;unfold q7;split
 ·omega
 ·rw[rO,E2 h a t h2];omega
theorem Gj{l:List Pt}(a n:Int)(ts:List Tk):∀j,j≤ts.length→0≤Ak l a n ts j
 |0,_=>by simp[Ak]
 |j+1,hj=>by
  have ih:=Gj (l:=l) a n ts j (by omega);rw[pK (show j<ts.length by omega)];split
  ·rw[rO];omega
  ·exact ih
theorem Mq{l:List Pt}(a n n':Int)(hn:n≤n')(ts:List Tk):∀j,j≤ts.length→Ak l a n' ts j≤Ak l a n ts j
 |0,_=>by simp[Ak]
 |j+1,hj=>by
  have ih:=Mq (l:=l) a n n' hn ts j (by omega);have hlt:j<ts.length:=by omega
  rw[pK hlt,pK hlt];split
  ·rw[if_pos (by omega),rO,rO];omega
  ·split
   ·rw[rO];omega
   ·exact ih
theorem Mr{l:List Pt}(a n:Int)(ts:List Tk)(hd:∀t,t∈ts→t.d≤n):∀j,j≤ts.length→Ak l a n ts j=0
 |0,_=>by simp[Ak]
 |j+1,hj=>by
  have hlt:j<ts.length:=by omega
  have:=hd _ (List.getElem_mem hlt);rw[pK hlt,if_neg (by omega),Mr a n ts hd j (by omega)]
theorem Tt{l:List Pt}(a n:Int)(ts:List Tk):∀j,j≤ts.length→∀(i:Nat) (hi:i<ts.length),i<j→ts[i].d>n→q7 l a ts[i]≤Ak l a n ts j
 |0,_,i,_,hij,_=>by omega
 |j+1,hj,i,hi,hij,hd=>by
  have hlt:j<ts.length:=by omega
  rw[pK hlt];by_cases hji:i=j
  ·subst hji;rw[if_pos hd,rO];omega
  ·have ih:=Tt (l:=l) a n ts j (by omega) i hi (by omega) hd;split
   ·rw[rO];omega
   ·exact ih
theorem YJ{l:List Pt}(h:bG l=0){i:Nat}(hi:i<l.length){n:Int}(hn:0≤n):xL l (i:Nat) n=(Ak l (i:Nat) n l[i].ts l[i].ts.length,0):=by
 rw[xL,if_neg (by omega),if_neg (by omega),show((i:Int)).toNat=i from rfl,List.getElem?_eq_getElem hi];simp only;rw[if_neg (by omega)]
end Ir
end Go.Proofs.Ytepdklcpagielaa
