/-
  Delay: tasks of partitions. Delay: Check of both. Delay: the document's Check. Delay: how long a task waits, of both. Delay: the document's wait; of; Wait of both. Delay: More of both. Delay: Of of both. Delay: what holds of partitions that may be asked.
-/
import Derived.Test.YtecdcefacdodgaaVDem
import Derived.Test.YtecdcefacdodgaaZA
set_option maxRecDepth 100000
set_option linter.unusedSimpArgs false
set_option linter.unusedVariables false
namespace Go.Proofs.Ytecdcefacdodgaa
open Go Ads
namespace Ir
def qB(t:Tk)(B:Int):Bool:=decide (0≤t.b∧t.b≤t.w∧0≤t.c∧t.c≤4∧((t.c=0∧t.e=0∧t.f=0)∨(t.c≠0∧1≤t.e∧t.e≤B∧1≤t.f∧t.e*t.f≤t.w)))
theorem qt{t:Tk}(h:dw t=true):1≤t.w∧t.w≤t.d∧t.d≤t.p∧t.p≤64:=by simpa[dw] using h
theorem PI(t:Tk)(B:Int)(h:dw t=true):PC fs ms 165 [tk t,.int .i64 B] (.bool (qB t B)):=by
 have hw:=qt h;have hdiv:1≤t.e→(t.f≤t.w/t.e↔t.e*t.f≤t.w):=fun he=>by
  rw[Int.le_ediv_iff_mul_le (by omega),Int.mul_comm]
 have hq:1≤t.e→IntKind.i64.wrap (t.w.tdiv t.e)=t.w/t.e:=fun he=>IntWalk.i64_quo _ _ (by omega);refine bq rfl rfl ?_;refine aA (af:=Li) false rfl (Nat.le_of_ble_eq_true rfl) ?_;generalize hQ:(fun(v:AV) (_:Heap)=>v=.bool (qB t B))=Q;conv=>whnf
 iterate 10 (all_goals (first|(refine br (fun hc=>?_) (fun hc=>?_)<;>(try rw[hc])<;>(conv=>whnf))|skip))
 all_goals (try(refine⟨_,jK _ _ (by simp at*;omega),?_⟩;conv=>whnf;rw[hq (by simp at*;omega)]))
 all_goals (subst hQ;refine congrArg AV.bool ?_;rw[Bool.eq_iff_iff];simp[qB] at*;generalize t.e*t.f=P at*;generalize t.w/t.e=D at*;omega)
end Ir
end Go.Proofs.Ytecdcefacdodgaa
set_option maxRecDepth 100000
set_option linter.unusedSimpArgs false
set_option linter.unusedVariables false
namespace Go.Proofs.Ytecdcefacdodgaa
open Go Ads
namespace Ir
structure Pt where
 bV:Int
 cE:Int
 k:Nat
 ts:List Tk
def pt(x:Pt):AV:=.agg [.int .i64 x.bV,.int .i64 x.cE,.fz x.k (fQ x.ts)]
def pts(l:List Pt):List AV:=l.map pt
theorem EF(x:Pt):(pt x).cl=true:=by simp[pt,AV.cl,bn,bJ]
theorem aS(l:List Pt):bn (pts l)=true:=pW (enc:=pt) EF l
theorem bL(l:List Pt):(pts l).length=l.length:=List.length_map ..
theorem lD{l:List Pt}{j k:Nat}(hj:j<l.length):pV (.aH 3) [.fz k (pts l),.int .i64 (j:Nat)]=some (.fp (pt l[j]).cells 0):=z9 (enc:=pt) hj rfl
def gM(x:Pt):Prop:=1≤x.bV∧x.bV≤64∧1≤x.cE∧x.cE≤x.bV
instance(x:Pt):Decidable (gM x):=by unfold gM;infer_instance
def gN(x:Pt):Bool:=decide (gM x)&&(cL x.ts&&x.ts.all fun t=>qB t x.cE)
def aB(l:List Pt):Int:=if l.length≤4∧l.all gN=true then 0 else 2
theorem zG{l:List Pt}{j:Nat}(hj:j<l.length)(h:gN l[j]=false):aB l=2:=by
 rw[aB,if_neg];rintro⟨_,x⟩;rw[List.all_eq_true] at x;rw[x _ (List.getElem_mem hj)] at h;exact absurd h (by decide)
def Small(l:List Pt):Prop:=l.length≤17592186044416∧∀x,x∈l→x.ts.length≤17592186044416
theorem xH(l:List Tk):dz l (List.replicate l.length 0)=if cL l=true then 0 else 2:=by
 have:(List.replicate l.length (0:Int)).any kJ=false:=by
  rw[List.any_eq_false];intro m hm;rw[(List.mem_replicate.1 hm).2];decide
 unfold dz;by_cases h:cL l=true
 ·rw[if_pos ⟨this,h,by simp⟩,if_pos h]
 ·rw[if_neg (fun x=>h x.2.1),if_neg h]
theorem HB(t:Tk)(x:Pt)(h:dw t=true):PC fs ms 164 [tk t,.fp (pt x).cells 0] (.bool (!qB t x.cE)):=by
 refine bq (by simp[bn,AV.cl,tk,pt,AV.cells,bJ]) rfl ?_;refine aA (af:=Lh) false rfl (Nat.le_of_ble_eq_true rfl) ?_;generalize hQ:(fun(v:AV) (_:Heap)=>v=.bool (!qB t x.cE))=Q;conv=>whnf
 refine ai (PI t x.cE h) ?_;conv=>whnf
 subst hQ;rfl
theorem tc(k:Nat)(l:List Pt)(hs:Small l):PC fs ms 154 [.fz k (pts l)] (.int .i64 (aB l)):=by
 refine bq (by simp[bn,AV.cl,aS]) rfl ?_;refine aA (af:=La) false rfl (Nat.le_of_ble_eq_true rfl) ?_;generalize hQ:(fun(v:AV) (_:Heap)=>v=.int .i64 (aB l))=Q;conv=>whnf
 refine br (fun hc=>?_) (fun hc=>?_)<;>(try rw[hc])<;>(conv=>whnf)
 ·subst hQ;have:=of_decide_eq_true hc;rw[bL] at this;rw[aB,if_neg (by omega)]
 ·have Xj:l.length≤4:=by
   have:=of_decide_eq_false hc;rw[bL] at this;omega
  refine dy 5 [(9,.fz k (pts l)),(10,.int .i64 (pts l).length),(11,.int .i64 ((0:Nat):Int))] (by repeat' (first|exact trivial|refine bt rfl (by omega) ?_|refine aV rfl (by omega) ?_|refine aJ rfl (by omega) ?_|refine aC rfl (by first|rfl|simp[bn,AV.cl,aE,aS]) ?_|refine aC (au (by omega)) rfl ?_)) ?_;refine fH 5 l.length (fun j=>(l.take j).all gN=true) (fun j=>[(9,.fz k (pts l)),(10,.int .i64 (pts l).length),(11,.int .i64 (j:Nat))]) ?_ ?_ rfl
  ·intro j hj hi;have hts:=hs.2 _ (List.getElem_mem hj);have Im:=fun h=>zG (l:=l) hj h;have EV:=fun h=>AL (p:=gN) hj hi h;have r7:=lD (k:=k) hj;generalize l[j]=x at*;conv=>whnf
   refine br (fun hc=>?_) (fun hc=>?_)<;>(try rw[hc])<;>(conv=>whnf)
   ·refine⟨_,r7,?_⟩;conv=>whnf
    by_cases hx:gM x
    ·have hx':=hx;obtain⟨x1,x2,x3,x4⟩:=hx';refine fO (by simp;omega) (fun hc=>?_)
     (try rw[hc])
     conv=>whnf
     refine fO (by simp;omega) (fun hc=>?_)
     (try rw[hc])
     conv=>whnf
     refine fO (by simp;omega) (fun hc=>?_)
     (try rw[hc])
     conv=>whnf
     refine fO (by simp;omega) (fun hc=>?_)
     (try rw[hc])
     conv=>whnf
     refine⟨_,_,by rw[bM];exact Ad (by omega),?_⟩;conv=>whnf
     refine ja (zD x.k 2 x.ts (List.replicate x.ts.length 0) (by omega) (by simp;omega)) rfl (.cons (.clean (by simp[AV.cl,bJ])) (.cons (.row (s:=1) trivial rfl (mY _).symm (jA _) (by simp[ints]) (Nat.le_refl _) (by omega) (fun _=>rfl) (fun _=>rfl) (aE _)) .nil)) ?_;rw[xH];by_cases ht:cL x.ts=true
     ·rw[if_pos ht];conv=>whnf
      have CL:∀t,t∈x.ts→dw t=true:=by
       simp only[cL,Bool.and_eq_true,List.all_eq_true] at ht;exact ht.1
      refine ja (A7 (p:=fun t=>!qB t x.cE) (aF:=[.fp (pt x).cells 0]) x.k x.ts (by omega) (by simp[bn,AV.cl,pt,AV.cells,bJ]) (fun t ht=>HB t x (CL t ht))) rfl
       (.cons (.clean (by simp[AV.cl,bJ])) (.cons (.func' .nil (.cons (.ptr' trivial rfl (.clean (l:=(pt x).cells) (bN (EF x)))) .nil)) .nil)) ?_
      cases ha:x.ts.any (fun t=>!qB t x.cE) with
      |true=>
       conv=>whnf
       subst hQ;rw[Im];rw[List.any_eq_true] at ha;obtain⟨t,h1,h2⟩:=ha;rw[gN,Bool.and_eq_false_iff,Bool.and_eq_false_iff];refine .inr (.inr ?_);rw[List.all_eq_false];exact⟨t,h1,by simpa using h2⟩
      |false=>
       conv=>whnf
       refine⟨EV ?_,(by repeat' (first|exact trivial|refine bt rfl (by omega) ?_|refine aV rfl (by omega) ?_|refine aJ rfl (by omega) ?_|refine aC rfl (by first|rfl|simp[bn,AV.cl,aE,aS]) ?_|refine aC (au (by omega)) rfl ?_))⟩;rw[List.any_eq_false] at ha;simp only[gN,decide_eq_true hx,ht,Bool.true_and];rw[List.all_eq_true];intro t h1;have:=ha t h1;simpa using this
     ·rw[if_neg ht];conv=>whnf
      subst hQ;rw[Im (by simp[gN,ht])]
    ·have hb:aB l=2:=Im (by simp[gN,hx]);unfold gM at hx;iterate 5 (all_goals (first|(refine br (fun hc=>?_) (fun hc=>?_)<;>(try rw[hc])<;>(conv=>whnf))|skip))
     all_goals first
      |(subst hQ;rw[hb];done)
      |(exfalso;simp at*;omega)
   ·exfalso;have:=of_decide_eq_false hc;simp only[bL] at this;omega
  ·intro hi;rw[List.take_length] at hi;conv=>whnf
   refine br (fun hc=>?_) (fun hc=>?_)<;>(try rw[hc])<;>(conv=>whnf)
   ·exfalso;have:=of_decide_eq_true hc;simp only[bL] at this;omega
   ·subst hQ;rw[aB,if_pos ⟨Xj,hi⟩]
end Ir
end Go.Proofs.Ytecdcefacdodgaa
set_option maxRecDepth 100000
set_option linter.unusedSimpArgs false
set_option linter.unusedVariables false
namespace Go.Proofs.Ytecdcefacdodgaa
open Go Ads
namespace Ir
end Ir
end Go.Proofs.Ytecdcefacdodgaa
set_option maxRecDepth 100000
set_option linter.unusedSimpArgs false
set_option linter.unusedVariables false
namespace Go.Proofs.Ytecdcefacdodgaa
open Go Ads
namespace Ir
def mz(x:Pt)(g:Int):Bool:=x.ts.any fun t=>t.c==g
def dK(l:List Pt)(a g:Int):Nat→Int
 |0=>0
 |j+1=>match l[j]? with
  |some x=>if(j:Int)≠a∧mz x g=true then IntKind.i64.wrap (dK l a g j+IntKind.i64.wrap (2*x.bV)) else dK l a g j
  |none=>dK l a g j
theorem lU{l:List Pt}{a g:Int}{j:Nat}(h:j<l.length):dK l a g (j+1)=if(j:Int)≠a∧mz l[j] g=true then IntKind.i64.wrap (dK l a g j+IntKind.i64.wrap (2*l[j].bV)) else dK l a g j:=by
 rw[dK,List.getElem?_eq_getElem h]
def eN(l:List Pt)(a:Int)(t:Tk):Int:=if t.c=0 then 0 else dK l a t.c l.length
def sn(x:Pt)(k:Nat)(l:List Pt)(a:Int):AV:=.agg [.int .i64 x.bV,.int .i64 x.cE,.fz x.k (fQ x.ts),.fz k (pts l),.int .i64 a]
theorem iJ(x:Pt)(k:Nat)(l:List Pt)(a:Int):(sn x k l a).cl=true:=by simp[sn,AV.cl,bn,bJ,aS]
theorem SH(t:Tk)(g:Int):PC fs ms 167 [tk t,.fp [.int .i64 g] 0] (.bool (t.c==g)):=by
 refine bq rfl rfl ?_;refine aA (af:=Lk) false rfl (Nat.le_of_ble_eq_true rfl) ?_;generalize hQ:(fun(v:AV) (_:Heap)=>v=.bool (t.c==g))=Q;conv=>whnf
 subst hQ;rfl
theorem GB(x:Pt)(k:Nat)(l:List Pt)(a g:Int):PC fs ms 155 [sn x k l a,.int .i64 g] (.func (.func 166) [] [.fp (sn x k l a).cells 0,.fp [.int .i64 g] 0]):=by
 refine⟨by simp[bn,AV.cl,iJ],by simp[bn,AV.cl,bN (iJ x k l a)],?_⟩;refine aA (af:=Lb) false rfl (Nat.le_of_ble_eq_true rfl) ?_;generalize hQ:(fun(u:AV) (h:Heap)=>kz (fun _=>True) h u (.func (.func 166) [] [.fp (sn x k l a).cells 0,.fp [.int .i64 g] 0]))=Q;conv=>whnf
 subst hQ;exact .func' .nil (.cons (.ptr' trivial rfl (.clean (l:=(sn x k l a).cells) (bN (iJ x k l a)))) (.cons (.ptr' trivial rfl (.clean (l:=[.int .i64 g]) rfl)) .nil))
def tR:AC→AC
 |.seq a b=>match tR a with|.bad=>tR b|x=>x
 |.cond _ a b=>match tR a with|.bad=>tR b|x=>x
 |.block _ c=>tR c
 |.rangeFunc _ _ a _=>a
 |_=>.bad
def tS:AC→AC
 |.seq a b=>match tS a with|.bad=>tS b|x=>x
 |.cond _ a b=>match tS a with|.bad=>tS b|x=>x
 |.block _ c=>tS c
 |.rangeFunc _ _ _ b=>b
 |_=>.bad
def wA:AC:=tR Fy.body
def wB:AC:=tS Fy.body
def wE(F:AV):Env:=ek 4 [(4,.ptr 0 0),(12,F)]
def wH(F:AV)(n:Int):Heap:=⟨2,.node (.node .nil (some (.loop 0 none (wE F) [13] wA wB)) .nil) (some (.cells [.int .i64 n] true 0)) .nil⟩
theorem Em(F:AV)(n:Int):wH F n=hk 2 [(0,.cells [.int .i64 n] true 0),(1,.loop 0 none (wE F) [13] wA wB)]:=vT _ _
theorem Pn(x:Pt)(k:Nat)(l:List Pt)(a g:Int){F:AV}(hF:F.cl=true)(hs:Small l):VD fs ms 166 [.yield 1,.fp (sn x k l a).cells 0,.fp [.int .i64 g] 0] (wH F 0) (fun _ h2=>h2=wH F (dK l a g l.length)):=by
 have AF:=hs.1;refine aA (af:=Lj) false rfl (Nat.le_of_ble_eq_true rfl) ?_;generalize hQ:(fun(v:AV) (h2:Heap)=>h2=wH F (dK l a g l.length))=Q;show lT _ _ fun e=>kX fs ms 2 false false _ e ⟨2,.node (.node .nil (some (.loop 0 none (wE F) [13] wA wB)) .nil) (some (.cells [.int .i64 0] true 0)) .nil⟩ _;conv=>whnf
 refine xe (B:=2) (H:=wH F (dK l a g 0)) (d:=4) (l:=[(0,.yield 1),(1,.fp (sn x k l a).cells 0),(2,.fp [.int .i64 g] 0),(8,.fz k (pts l)),(9,.int .i64 (pts l).length),(10,.int .i64 ((0:Nat):Int))]) (vT _ _) id (by repeat' (first|exact trivial|refine bt rfl (by omega) ?_|refine aV rfl (by omega) ?_|refine aJ rfl (by omega) ?_|refine aC rfl (by first|rfl|simp[bn,AV.cl,aE,aS,bN (iJ x k l a)]) ?_|refine aC (au (by omega)) rfl ?_))
  ⟨by omega,⟨_,rfl,aX rfl rfl⟩,by omega,⟨_,rfl,nh (by simp;exact⟨.ptr (by omega),.cl hF⟩)⟩,trivial⟩ (by intro b c hb hc h;exact h) (fun b hb=>rfl) (Nat.le_refl _) ?_
 refine jR 2 4 l.length (fun _=>True) (fun j=>[(0,.yield 1),(1,.fp (sn x k l a).cells 0),(2,.fp [.int .i64 g] 0),(8,.fz k (pts l)),(9,.int .i64 (pts l).length),(10,.int .i64 (j:Nat))]) (fun j=>wH F (dK l a g j)) ?_ ?_ trivial
 ·intro j hj _;have hts:=hs.2 _ (List.getElem_mem hj);have hn:=lU (a:=a) (g:=g) hj;have r7:=lD (k:=k) hj;generalize l[j]=y at*;show kX fs ms 2 false false _ (ek 4 _) ⟨2,.node (.node .nil (some (.loop 0 none (wE F) [13] wA wB)) .nil) (some (.cells [.int .i64 (dK l a g j)] true 0)) .nil⟩ _;generalize dK l a g j=n at*;conv=>whnf
  refine br (fun hc=>?_) (fun hc=>?_)<;>(try rw[hc])<;>(conv=>whnf)
  ·refine⟨_,r7,?_⟩;conv=>whnf
   refine ja (A7 (p:=fun t=>t.c==g) (aF:=[.fp [.int .i64 g] 0]) y.k y.ts (by omega) rfl (fun t _=>SH t g)) rfl (.cons (.clean (by simp[AV.cl,bJ])) (.cons (.clean rfl) .nil)) ?_;cases hu:(y.ts.any fun t=>t.c==g) with
   |false=>
    conv=>whnf
    rw[if_neg (by rintro⟨_,z⟩;rw[mz,hu] at z;exact absurd z (by decide))] at hn;iterate 2 (all_goals (first|(refine br (fun hc=>?_) (fun hc=>?_)<;>(try rw[hc])<;>(conv=>whnf))|skip))
    all_goals (refine⟨trivial,id,tA (H:=wH F (dK l a g (j+1))) ((congrArg (wH F) hn).trans (Em _ _)) _ (by repeat' (first|exact trivial|refine bt rfl (by omega) ?_|refine aV rfl (by omega) ?_|refine aJ rfl (by omega) ?_|refine aC rfl (by first|rfl|simp[bn,AV.cl,aE,aS,bN (iJ x k l a)]) ?_|refine aC (au (by omega)) rfl ?_)) ⟨by omega,⟨_,rfl,aX rfl rfl⟩,by omega,⟨_,rfl,nh (by simp;exact⟨.ptr (by omega),.cl hF⟩)⟩,trivial⟩ (by intro b c hb hc h;exact h) (fun b hb=>rfl) (Nat.le_refl _)⟩)
   |true=>
    conv=>whnf
    by_cases OQ:(j:Int)≠a
    ·rw[if_pos ⟨OQ,hu⟩] at hn;refine fP (by simpa using OQ) (fun hc=>?_)
     (try rw[hc])
     conv=>whnf
     refine xg rfl rfl ?_;refine bg (z:=false) ?_;conv=>whnf
     refine⟨rfl,none,rfl,?_⟩;refine bg (z:=false) ?_;conv=>whnf
     refine⟨by simp,⟨1,none,rfl⟩,?_⟩;conv=>whnf
     refine⟨trivial,id,tA (H:=wH F (dK l a g (j+1))) ((congrArg (wH F) hn).trans (Em _ _)) _ (by repeat' (first|exact trivial|refine bt rfl (by omega) ?_|refine aV rfl (by omega) ?_|refine aJ rfl (by omega) ?_|refine aC rfl (by first|rfl|simp[bn,AV.cl,aE,aS,bN (iJ x k l a)]) ?_|refine aC (au (by omega)) rfl ?_)) ⟨by omega,⟨_,rfl,aX rfl rfl⟩,by omega,⟨_,rfl,nh (by simp;exact⟨.ptr (by omega),.cl hF⟩)⟩,trivial⟩ (by intro b c hb hc h;exact h) (fun b hb=>rfl) (Nat.le_refl _)⟩
    ·rw[if_neg (fun z=>OQ z.1)] at hn;refine fO (by simpa using OQ) (fun hc=>?_)
     (try rw[hc])
     conv=>whnf
     refine⟨trivial,id,tA (H:=wH F (dK l a g (j+1))) ((congrArg (wH F) hn).trans (Em _ _)) _ (by repeat' (first|exact trivial|refine bt rfl (by omega) ?_|refine aV rfl (by omega) ?_|refine aJ rfl (by omega) ?_|refine aC rfl (by first|rfl|simp[bn,AV.cl,aE,aS,bN (iJ x k l a)]) ?_|refine aC (au (by omega)) rfl ?_)) ⟨by omega,⟨_,rfl,aX rfl rfl⟩,by omega,⟨_,rfl,nh (by simp;exact⟨.ptr (by omega),.cl hF⟩)⟩,trivial⟩ (by intro b c hb hc h;exact h) (fun b hb=>rfl) (Nat.le_refl _)⟩
  ·exfalso;have:=of_decide_eq_false hc;simp only[bL] at this;omega
 ·intro _;show kX fs ms 2 false false _ (ek 4 _) ⟨2,.node (.node .nil (some (.loop 0 none (wE F) [13] wA wB)) .nil) (some (.cells [.int .i64 (dK l a g l.length)] true 0)) .nil⟩ _;generalize hn:dK l a g l.length=n at*;conv=>whnf
  refine fO (by rw[bL];simp) (fun hc=>?_)
  (try rw[hc])
  conv=>whnf
  subst hQ;rfl
theorem Fv(x:Pt)(k:Nat)(l:List Pt)(a:Int)(t:Tk)(hs:Small l):PC fs ms 135 [sn x k l a,tk t] (.int .i64 (eN l a t)):=by
 refine bq (by simp[bn,iJ];rfl) rfl ?_;refine aA (af:=Fy) false rfl (Nat.le_of_ble_eq_true rfl) ?_;generalize hQ:(fun(v:AV) (_:Heap)=>v=.int .i64 (eN l a t))=Q;conv=>whnf
 refine br (fun hc=>?_) (fun hc=>?_)<;>(try rw[hc])<;>(conv=>whnf)
 ·subst hQ;simp at hc;rw[eN,if_pos hc]
 ·refine ai (GB x k l a t.c) ?_;conv=>whnf
  refine xe (B:=0) (d:=4) (l:=[(4,.ptr 0 0),(12,.func (.func 166) [] [.fp (sn x k l a).cells 0,.fp [.int .i64 t.c] 0])]) (DA (.cells [.int .i64 0] true 0)) (fun b=>2) (by repeat' (first|exact trivial|refine bt rfl (by omega) ?_|refine aV rfl (by omega) ?_|refine aJ rfl (by omega) ?_|refine aC rfl (by first|rfl|simp[bn,AV.cl,aE,bN (iJ x k l a)]) ?_|refine aC (au (by omega)) rfl ?_)) ⟨by omega,⟨_,rfl,aX rfl rfl⟩,trivial⟩ (by intro b c hb hc _;simp at hb hc;omega) (by intro b hb;omega) (by omega) ?_;show VC fs ms 0 false (.rangeFunc (.t 12) [13] wA wB) _ _ _;refine Cv rfl rfl ?_;have hF:(AV.func (.func 166) [] [.fp (sn x k l a).cells 0,.fp [.int .i64 t.c] 0]).cl=true:=by simp[bn,AV.cl,bN (iJ x k l a)]
  refine VD.mono (Pn x k l a t.c hF hs) fun v h2 h=>?_;subst h;refine⟨.normal,0,rfl,by decide,by simp,?_⟩;conv=>whnf
  subst hQ;simp at hc;rw[eN,if_neg hc]
end Ir
end Go.Proofs.Ytecdcefacdodgaa
set_option maxRecDepth 100000
set_option linter.unusedSimpArgs false
set_option linter.unusedVariables false
namespace Go.Proofs.Ytecdcefacdodgaa
open Go Ads
namespace Ir
theorem Tn{α:Type}{l:List α}{p:α→Bool}{j:Nat}(hj:j<l.length)(h:p l[j]=true):l.any p=true:=List.any_eq_true.2 ⟨l[j],List.getElem_mem hj,h⟩
theorem QN{α:Type}{l:List α}{p:α→Bool}{j:Nat}(hj:j<l.length)(hi:(l.take j).any p=false)(h:p l[j]=false):(l.take (j+1)).any p=false:=by
 rw[eG hj,List.any_append,hi];simp[h]
theorem uc(l:List Pt):aB l=0∨aB l=2:=by unfold aB;split<;>simp
def TQ:AV:=.agg [.int .i64 0,.int .i64 0,.aq,.aq,.int .i64 0]
def pr9(p:Int×Int):AV:=.cC [.int .i64 p.1,.int .i64 p.2]
theorem Jy(k:Nat)(l:List Pt)(a:Int)(hs:Small l)(h:aB l=2):PC fs ms 134 [.fz k (pts l),.int .i64 a] (.cC [TQ,.int .i64 2]):=by
 refine bq (by simp[bn,AV.cl,aS]) rfl ?_;refine aA (af:=Fx) false rfl (Nat.le_of_ble_eq_true rfl) ?_;generalize hQ:(fun(v:AV) (_:Heap)=>v=.cC [TQ,.int .i64 2])=Q;conv=>whnf
 refine ai (tc k l hs) ?_;rw[h];conv=>whnf
 subst hQ;rfl
theorem Jz(k:Nat)(l:List Pt)(a:Int)(hs:Small l)(h:aB l=0)(ha:a<0∨l.length≤a):PC fs ms 134 [.fz k (pts l),.int .i64 a] (.cC [TQ,.int .i64 9]):=by
 refine bq (by simp[bn,AV.cl,aS]) rfl ?_;refine aA (af:=Fx) false rfl (Nat.le_of_ble_eq_true rfl) ?_;generalize hQ:(fun(v:AV) (_:Heap)=>v=.cC [TQ,.int .i64 9])=Q;conv=>whnf
 refine ai (tc k l hs) ?_;rw[h];conv=>whnf
 by_cases h0:a<0
 ·refine fP (by simp;omega) (fun hc=>?_)
  (try rw[hc])
  conv=>whnf
  subst hQ;rfl
 ·refine fO (by simp;omega) (fun hc=>?_)
  (try rw[hc])
  conv=>whnf
  refine fP (by rw[bL];simp;omega) (fun hc=>?_)
  (try rw[hc])
  conv=>whnf
  subst hQ;rfl
theorem NJ(k:Nat)(l:List Pt)(i:Nat)(hs:Small l)(h:aB l=0)(hi:i<l.length):PC fs ms 134 [.fz k (pts l),.int .i64 (i:Nat)] (.cC [sn l[i] k l (i:Nat),.int .i64 0]):=by
 refine bq (by simp[bn,AV.cl,aS]) (by simp[bn,AV.cl,iJ]) ?_;refine aA (af:=Fx) false rfl (Nat.le_of_ble_eq_true rfl) ?_;generalize hQ:(fun(v:AV) (_:Heap)=>v=.cC [sn l[i] k l (i:Nat),.int .i64 0])=Q;conv=>whnf
 refine ai (tc k l hs) ?_;rw[h];conv=>whnf
 refine fO (by rw[bL];simp;omega) (fun hc=>?_)
 (try rw[hc])
 conv=>whnf
 refine⟨_,lD hi,?_⟩;conv=>whnf
 subst hQ;rfl
def W1(l:List Pt)(a n:Int):Int×Int:=if aB l=2 then(0,2) else if a<0 then(0,9) else match l[a.toNat]? with
 |none=>(0,9)
 |some x=>if n<0 then(0,9) else match x.ts[n.toNat]? with
  |none=>(0,9)
  |some t=>(eN l a t,0)
theorem WH{l:List Pt}(h:aB l=0){x:Pt}(hx:x∈l){t:Tk}(ht:t∈x.ts):gM x∧dw t=true∧qB t x.cE=true:=by
 unfold aB at h;split at h
 ·rename_i hh;have:=List.all_eq_true.1 hh.2 x hx;simp only[gN,Bool.and_eq_true,decide_eq_true_eq,List.all_eq_true,cL] at this;exact⟨this.1,this.2.1.1 t ht,this.2.2 t ht⟩
 ·simp at h
theorem Mw{t:Tk}{B:Int}(h:qB t B=true):0≤t.b∧t.b≤t.w∧0≤t.c∧t.c≤4∧((t.c=0∧t.e=0∧t.f=0)∨(t.c≠0∧1≤t.e∧t.e≤B∧1≤t.f∧t.e*t.f≤t.w)):=by simpa[qB] using h
end Ir
end Go.Proofs.Ytecdcefacdodgaa
set_option maxRecDepth 100000
set_option linter.unusedSimpArgs false
set_option linter.unusedVariables false
namespace Go.Proofs.Ytecdcefacdodgaa
open Go Ads
namespace Ir
def dF(l:List Pt)(a:Int)(t:Tk):Int:=IntKind.i64.wrap (t.f*IntKind.i64.wrap (IntKind.i64.wrap (eN l a t+t.e)-1))
def cO(l:List Pt)(i:Nat):List Int:=match l[i]? with
 |some x=>x.ts.map (dF l (i:Nat))
 |none=>[]
def WZ(l:List Pt)(a:Int):List Int×Int:=if aB l=2 then([],2) else if a<0∨l.length≤a then([],9) else(cO l a.toNat,0)
def PS(k:Nat)(p:List Int×Int):AV:=.cC [.fz k (ints p.1),.int .i64 p.2]
def Jh(ts:List Int)(j:Nat):Heap:=⟨1,.node .nil (some (.cells (ints (iB ts j)) true 0)) .nil⟩
theorem Ji{k:Nat}{l:List Pt}{a:Int}(hs:Small l)(h:aB l=2):PC fs ms 107 [.fz k (pts l),.int .i64 a] (PS 3 ([],2)):=by
 refine⟨by simp[bn,AV.cl,aS],rfl,?_⟩;refine aA (af:=Fw) false rfl (Nat.le_of_ble_eq_true rfl) ?_;generalize hQ:(fun(v:AV) (g:Heap)=>kz (fun _=>True) g v (PS 3 ([],2)))=Q;conv=>whnf
 refine ai (Jy k l a hs h) ?_;conv=>whnf
 subst hQ;exact .P1 (.cons .aq (.cons (.clean rfl) .nil))
theorem Jj{k:Nat}{l:List Pt}{a:Int}(hs:Small l)(h:aB l=0)(ha:a<0∨l.length≤a):PC fs ms 107 [.fz k (pts l),.int .i64 a] (PS 3 ([],9)):=by
 refine⟨by simp[bn,AV.cl,aS],rfl,?_⟩;refine aA (af:=Fw) false rfl (Nat.le_of_ble_eq_true rfl) ?_;generalize hQ:(fun(v:AV) (g:Heap)=>kz (fun _=>True) g v (PS 3 ([],9)))=Q;conv=>whnf
 refine ai (Jz k l a hs h ha) ?_;conv=>whnf
 subst hQ;exact .P1 (.cons .aq (.cons (.clean rfl) .nil))
theorem Mz{k:Nat}{l:List Pt}{i:Nat}(hs:Small l)(h:aB l=0)(hi:i<l.length):PC fs ms 107 [.fz k (pts l),.int .i64 (i:Nat)] (PS 2 (cO l i,0)):=by
 refine⟨by simp[bn,AV.cl,aS],by simp[PS,bn,AV.cl,aE],?_⟩;refine aA (af:=Fw) false rfl (Nat.le_of_ble_eq_true rfl) ?_;have hts:=hs.2 _ (List.getElem_mem hi);have hM:cO l i=l[i].ts.map (dF l (i:Nat)):=by rw[cO,List.getElem?_eq_getElem hi]
 have Qu:=NJ k l i hs h hi;rw[hM];generalize l[i]=x at*;generalize hQ:(fun(v:AV) (g:Heap)=>kz (fun _=>True) g v (PS 2 (x.ts.map (dF l (i:Nat)),0)))=Q;conv=>whnf
 refine ai Qu ?_;conv=>whnf
 refine⟨_,_,by rw[bM];exact Ad (by omega),?_⟩;conv=>whnf
 have hlen:(x.ts.map (dF l (i:Nat))).length=x.ts.length:=by simp
 have bW:∀(j:Nat) (h1:j<x.ts.length) (h2:j<(x.ts.map (dF l (i:Nat))).length),dF l (i:Nat) x.ts[j]=(x.ts.map (dF l (i:Nat)))[j]:=fun j h1 h2=>by simp
 generalize x.ts.map (dF l (i:Nat))=M at*;refine iq [0] (i:=6) (v':=.fp (sn x k l (i:Nat)).cells 0) rfl (.ptr' (by simp) rfl (.clean (l:=(sn x k l (i:Nat)).cells) (bN (iJ x k l (i:Nat))))) ?_;refine xe (B:=0) (H:=Jh M 0) (d:=5) (l:=[(6,.fp (sn x k l (i:Nat)).cells 0),(8,.sl 0 0 x.ts.length x.ts.length false),(27,.fz x.k (fQ x.ts)),(28,.int .i64 (fQ x.ts).length),(29,.int .i64 ((0:Nat):Int))]) (DA _) (fun b=>1) (by repeat' (first|exact trivial|refine bt rfl (by omega) ?_|refine aV rfl (by omega) ?_|refine aJ rfl (by omega) ?_|refine aC rfl (by first|rfl|simp[bn,AV.cl,aE,bJ,bN (iJ x k l (i:Nat))]) ?_|refine aC (au (by omega)) rfl ?_)) ⟨by omega,⟨_,rfl,ql (by rw[yA,hlen])⟩,trivial⟩ (by intro b c hb hc _;simp at hb hc;omega) (by intro b hb;omega) (by omega) ?_;refine jR 0 5 x.ts.length (fun _=>True) (fun j=>[(6,.fp (sn x k l (i:Nat)).cells 0),(8,.sl 0 0 x.ts.length x.ts.length false),(27,.fz x.k (fQ x.ts)),(28,.int .i64 (fQ x.ts).length),(29,.int .i64 (j:Nat))]) (Jh M) ?_ ?_ trivial
 ·intro j hj _;have hg:=bW j hj (by omega);show kX fs ms 0 false false _ _ ⟨1,.node .nil (some (.cells (ints (iB M j)) true 0)) .nil⟩ _;conv=>whnf
  refine fP (by rw[bM];simp;omega) (fun hc=>?_)
  (try rw[hc])
  conv=>whnf
  refine⟨_,mK hj,?_⟩;conv=>whnf
  refine ai (Fv x k l (i:Nat) x.ts[j] hs) ?_;conv=>whnf
  refine⟨_,eU hj,?_⟩;conv=>whnf
  refine CU (by show(Nat.ble (j+1) (ints (iB M j)).length&&true)=true;rw[aT,oV M (by omega),hlen,Bool.and_true];exact Nat.ble_eq_true_of_le (by omega)) ?_;conv=>whnf
  refine⟨dP (by(conv=>whnf);repeat' (first|exact trivial|(exact⟨rfl,rfl,.inr ⟨_,_,rfl⟩⟩)|(refine⟨rfl,rfl,.inl ⟨rfl,fun o ho=>?_⟩⟩;cases ho;first|rfl)|(exact⟨rfl,.inr ⟨_,_,rfl⟩⟩)|(refine⟨rfl,.inl ⟨rfl,fun i o hi ho=>?_⟩⟩;cases hi;cases ho;first|rfl)|(refine And.intro (fun dI=>(Bool.false_ne_true dI).elim) ?_<;>conv=>whnf)|(refine And.intro (fun _=>?_) ?_<;>conv=>whnf)|(refine And.intro ?_ ?_<;>conv=>whnf))),?_⟩;conv=>whnf
  exact⟨trivial,id,tA (H:=Jh M (j+1)) (DA _) _ (by repeat' (first|exact trivial|refine bt rfl (by omega) ?_|refine aV rfl (by omega) ?_|refine aJ rfl (by omega) ?_|refine aC rfl (by first|rfl|simp[bn,AV.cl,aE,bJ,bN (iJ x k l (i:Nat))]) ?_|refine aC (au (by omega)) rfl ?_)) ⟨by omega,⟨_,rfl,ql (Bj M (by omega) hg)⟩,trivial⟩ (by intro b c hb hc _;simp at hb hc;omega) (by intro b hb;omega) (by omega)⟩
 ·intro _;show kX fs ms 0 false false _ _ ⟨1,.node .nil (some (.cells (ints (iB M x.ts.length)) true 0)) .nil⟩ _;conv=>whnf
  refine fO (by rw[bM];simp) (fun hc=>?_)
  (try rw[hc])
  conv=>whnf
  subst hQ;rw[←hlen,Bi];exact .P1 (.cons (.row (s:=1) trivial rfl (mY M).symm (jA M) (by rw[aT]) (Nat.le_refl _) (by omega) (fun _=>rfl) (fun _=>rfl) (aE M)) (.cons (.clean rfl) .nil))
end Ir
end Go.Proofs.Ytecdcefacdodgaa
set_option maxRecDepth 100000
set_option linter.unusedSimpArgs false
set_option linter.unusedVariables false
namespace Go.Proofs.Ytecdcefacdodgaa
open Go Ads
namespace Ir
def mx(a b:Int):Int:=cond (decide (b>a)) b a
theorem iO(a b:Int):mx a b=max a b:=by
 unfold mx;by_cases h:b>a
 ·rw[decide_eq_true h,cond_true];omega
 ·rw[decide_eq_false h,cond_false];omega
def xj(l:List Pt)(a:Int)(t:Tk):Int:=IntKind.i64.wrap (IntKind.i64.wrap (eN l a t+IntKind.i64.wrap (2*t.e))-1)
def ez(l:List Pt)(a:Int)(t:Tk):Int:=if t.c=0 then t.b else mx t.b (xj l a t)
def og(l:List Pt)(a n:Int)(ts:List Tk):Nat→Int
 |0=>0
 |j+1=>match ts[j]? with
  |some t=>if t.d>n then mx (og l a n ts j) (ez l a t) else og l a n ts j
  |none=>og l a n ts j
theorem gu{l:List Pt}{a n:Int}{ts:List Tk}{j:Nat}(h:j<ts.length):og l a n ts (j+1)=if ts[j].d>n then mx (og l a n ts j) (ez l a ts[j]) else og l a n ts j:=by
 rw[og,List.getElem?_eq_getElem h]
def qX(l:List Pt)(a n:Int):Int×Int:=if aB l=2 then(0,2) else if a<0 then(0,9) else match l[a.toNat]? with
 |none=>(0,9)
 |some x=>if n<0 then(0,2) else(og l a n x.ts x.ts.length,0)
theorem Vb(x:Pt)(k:Nat)(l:List Pt)(a:Int)(t:Tk)(hs:Small l):PC fs ms 162 [sn x k l a,tk t] (.int .i64 (ez l a t)):=by
 refine bq (by simp[bn,iJ];rfl) rfl ?_;refine aA (af:=Lg) false rfl (Nat.le_of_ble_eq_true rfl) ?_;generalize hQ:(fun(v:AV) (_:Heap)=>v=.int .i64 (ez l a t))=Q;conv=>whnf
 by_cases hc0:t.c=0
 ·refine fP (by simp[hc0]) (fun hc=>?_)
  (try rw[hc])
  conv=>whnf
  subst hQ;rw[ez,if_pos hc0]
 ·refine fO (by simp[hc0]) (fun hc=>?_)
  (try rw[hc])
  conv=>whnf
  refine ai (Fv x k l a t hs) ?_;conv=>whnf
  refine⟨dP (by(conv=>whnf);repeat' (first|exact trivial|(exact⟨rfl,rfl,.inr ⟨_,_,rfl⟩⟩)|(refine⟨rfl,rfl,.inl ⟨rfl,fun o ho=>?_⟩⟩;cases ho;first|rfl)|(exact⟨rfl,.inr ⟨_,_,rfl⟩⟩)|(refine⟨rfl,.inl ⟨rfl,fun i o hi ho=>?_⟩⟩;cases hi;cases ho;first|rfl)|(refine And.intro (fun dI=>(Bool.false_ne_true dI).elim) ?_<;>conv=>whnf)|(refine And.intro (fun _=>?_) ?_<;>conv=>whnf)|(refine And.intro ?_ ?_<;>conv=>whnf))),?_⟩;conv=>whnf
  subst hQ;rw[ez,if_neg hc0];rfl
theorem N5(k:Nat)(l:List Pt)(a n:Int)(hs:Small l):PC fs ms 148 [.fz k (pts l),.int .i64 a,.int .i64 n] (.cC [.int .i64 (qX l a n).1,.int .i64 (qX l a n).2]):=by
 refine bq (by simp[bn,AV.cl,aS]) rfl ?_;refine aA (af:=K9) false rfl (Nat.le_of_ble_eq_true rfl) ?_;generalize hQ:(fun(v:AV) (_:Heap)=>v=.cC [.int .i64 (qX l a n).1,.int .i64 (qX l a n).2])=Q;conv=>whnf
 rcases uc l with h|h
 ·by_cases ha:a<0∨l.length≤a
  ·refine ai (Jz k l a hs h ha) ?_;conv=>whnf
   subst hQ;rw[qX,if_neg (by omega)];by_cases h0:a<0
   ·rw[if_pos h0]
   ·rw[if_neg h0,List.getElem?_eq_none (by omega)]
  ·obtain⟨i,rfl⟩:=Int.eq_ofNat_of_zero_le (show 0≤a by omega);have hi:i<l.length:=by omega
   have hti:((i:Int)).toNat=i:=rfl;have Qu:=NJ k l i hs h hi;have hts:=hs.2 _ (List.getElem_mem hi);have hd:qX l (i:Nat) n=if n<0 then(0,2) else(og l (i:Nat) n l[i].ts l[i].ts.length,0):=by
    rw[qX,if_neg (by omega),if_neg (by omega),hti,List.getElem?_eq_getElem hi]
   refine ai Qu ?_;clear Qu;generalize l[i]=x at*;conv=>whnf
   by_cases h0:n<0
   ·refine fP (by simp;omega) (fun hc=>?_)
    (try rw[hc])
    conv=>whnf
    subst hQ;rw[hd,if_pos h0]
   ·refine fO (by simp;omega) (fun hc=>?_)
    (try rw[hc])
    conv=>whnf
    rw[if_neg h0] at hd;refine iq [0] (i:=8) (v':=.fp (sn x k l (i:Nat)).cells 0) rfl (.ptr' (by simp) rfl (.clean (l:=(sn x k l (i:Nat)).cells) (bN (iJ x k l (i:Nat))))) ?_;refine dy 5 [(2,.int .i64 n),(6,.int .i64 (og l (i:Nat) n x.ts 0)),(8,.fp (sn x k l (i:Nat)).cells 0),(26,.fz x.k (fQ x.ts)),(27,.int .i64 (fQ x.ts).length),(28,.int .i64 ((0:Nat):Int))] (by repeat' (first|exact trivial|refine bt rfl (by omega) ?_|refine aV rfl (by omega) ?_|refine aJ rfl (by omega) ?_|refine aC rfl (by first|rfl|simp[bn,AV.cl,aE,bJ,bN (iJ x k l (i:Nat))]) ?_|refine aC (au (by omega)) rfl ?_)) ?_;refine fH 5 x.ts.length (fun _=>True) (fun j=>[(2,.int .i64 n),(6,.int .i64 (og l (i:Nat) n x.ts j)),(8,.fp (sn x k l (i:Nat)).cells 0),(26,.fz x.k (fQ x.ts)),(27,.int .i64 (fQ x.ts).length),(28,.int .i64 (j:Nat))]) ?_ ?_ trivial
    ·intro j hj _;have hn:=gu (l:=l) (a:=(i:Nat)) (n:=n) hj;have hidx:=mK (k:=x.k) hj;generalize x.ts[j]=t at*;show kX fs ms 0 false false _ (ek 5 [(2,.int .i64 n),(6,.int .i64 (og l (i:Nat) n x.ts j)),(8,.fp (sn x k l (i:Nat)).cells 0),(26,.fz x.k (fQ x.ts)),(27,.int .i64 (fQ x.ts).length),(28,.int .i64 (j:Nat))]) _ _;generalize og l (i:Nat) n x.ts j=m at*;conv=>whnf
     refine fP (by rw[bM];simp;omega) (fun hc=>?_)
     (try rw[hc])
     conv=>whnf
     refine⟨_,hidx,?_⟩;conv=>whnf
     by_cases hdn:t.d>n
     ·rw[if_pos hdn] at hn;refine fP (by simp;omega) (fun hc=>?_)
      (try rw[hc])
      conv=>whnf
      refine ai (Vb x k l (i:Nat) t hs) ?_;conv=>whnf
      refine⟨trivial,⟨_,rfl,.cl rfl⟩,⟨_,congrArg (fun b=>some (AV.int .i64 b)) hn.symm,.cl rfl⟩,⟨_,rfl,.cl (by simp[AV.cl,bN (iJ x k l (i:Nat))])⟩,⟨_,rfl,.cl (by simp[AV.cl,bJ])⟩,⟨_,rfl,.cl rfl⟩,⟨_,au (by omega),.cl rfl⟩,trivial⟩
     ·rw[if_neg hdn] at hn;refine fO (by simp;omega) (fun hc=>?_)
      (try rw[hc])
      conv=>whnf
      refine⟨trivial,⟨_,rfl,.cl rfl⟩,⟨_,congrArg (fun b=>some (AV.int .i64 b)) hn.symm,.cl rfl⟩,⟨_,rfl,.cl (by simp[AV.cl,bN (iJ x k l (i:Nat))])⟩,⟨_,rfl,.cl (by simp[AV.cl,bJ])⟩,⟨_,rfl,.cl rfl⟩,⟨_,au (by omega),.cl rfl⟩,trivial⟩
    ·intro _;conv=>whnf
     refine fO (by rw[bM];simp) (fun hc=>?_)
     (try rw[hc])
     conv=>whnf
     subst hQ;rw[hd]
 ·refine ai (Jy k l a hs h) ?_;conv=>whnf
  subst hQ;rw[qX,if_pos h]
end Ir
end Go.Proofs.Ytecdcefacdodgaa
set_option maxRecDepth 100000
set_option linter.unusedSimpArgs false
set_option linter.unusedVariables false
namespace Go.Proofs.Ytecdcefacdodgaa
open Go Ads
namespace Ir
theorem kr{l:List Pt}(h:aB l=0):l.length≤4∧∀x,x∈l→gM x∧x.ts.length≤4∧∀t,t∈x.ts→dw t=true∧qB t x.cE=true:=by
 unfold aB at h;split at h
 ·rename_i h1;refine⟨h1.1,fun x hx=>?_⟩;have h2:=List.all_eq_true.1 h1.2 x hx;simp only[gN,Bool.and_eq_true,cL,List.all_eq_true] at h2;exact⟨of_decide_eq_true h2.1,of_decide_eq_true h2.2.1.2,fun t ht=>⟨h2.2.1.1 t ht,h2.2.2 t ht⟩⟩
 ·omega
theorem xk{l:List Pt}(h:aB l=0)(a g:Int):∀j,j≤l.length→0≤dK l a g j∧dK l a g j≤128*j
 |0,_=>by simp[dK]
 |j+1,hj=>by
  have ih:=xk h a g j (by omega);have hl:=(kr h).1;have hp:=((kr h).2 _ (List.getElem_mem (show j<l.length by omega))).1;unfold gM at hp;rw[lU (show j<l.length by omega)];split
  ·rw[IntWalk.i64_in (2*_) (by omega),IntWalk.i64_in _ (by omega)];omega
  ·omega
theorem zh{l:List Pt}(h:aB l=0)(a g:Int)(j:Nat)(hj:j<l.length):dK l a g (j+1)=if(j:Int)≠a∧mz l[j] g=true then dK l a g j+2*l[j].bV else dK l a g j:=by
 have ih:=xk h a g j (by omega);have hl:=(kr h).1;have hp:=((kr h).2 _ (List.getElem_mem (show j<l.length by omega))).1;unfold gM at hp;rw[lU (show j<l.length by omega)];split
 ·rw[IntWalk.i64_in (2*_) (by omega),IntWalk.i64_in _ (by omega)]
 ·rfl
theorem pL{l:List Pt}(h:aB l=0)(a:Int)(t:Tk):0≤eN l a t∧eN l a t≤512:=by
 unfold eN;split
 ·omega
 ·have:=xk h a t.c l.length (Nat.le_refl _);have hl:=(kr h).1;omega
theorem mA{l:List Pt}(h:aB l=0)(a:Int)(t:Tk)(he:0≤t.e∧t.e≤64):xj l a t=eN l a t+2*t.e-1:=by
 have:=pL h a t;unfold xj;rw[IntWalk.i64_in (2*_) (by omega),IntWalk.i64_in (_+_) (by omega),IntWalk.i64_in _ (by omega)]
theorem w6{l:List Pt}(h:aB l=0){x:Pt}(hx:x∈l){t:Tk}(ht:t∈x.ts):(1≤t.w∧t.w≤t.d∧t.d≤t.p∧t.p≤64)∧0≤t.b∧t.b≤t.w∧0≤t.c∧t.c≤4∧((t.c=0∧t.e=0∧t.f=0)∨(t.c≠0∧1≤t.e∧t.e≤x.cE∧1≤t.f∧t.e*t.f≤t.w)):=
 ⟨qt (((kr h).2 x hx).2.2 t ht).1,Mw (((kr h).2 x hx).2.2 t ht).2⟩
theorem HJ{l:List Pt}(h:aB l=0){x:Pt}(hx:x∈l){t:Tk}(ht:t∈x.ts):0≤t.e∧t.e≤64:=by
 have h1:=w6 h hx ht;have h2:=((kr h).2 x hx).1;unfold gM at h2;omega
theorem QW{l:List Pt}(h:aB l=0)(a:Int){x:Pt}(hx:x∈l){t:Tk}(ht:t∈x.ts):0≤ez l a t∧t.b≤ez l a t∧t.e≤ez l a t:=by
 have h1:=w6 h hx ht;have h2:=HJ h hx ht;have h3:=pL h a t;unfold ez;split
 ·omega
 ·rw[iO,mA h a t h2];omega
theorem ru{l:List Pt}(a n:Int)(ts:List Tk):∀j,j≤ts.length→0≤og l a n ts j
 |0,_=>by simp[og]
 |j+1,hj=>by
  have ih:=ru (l:=l) a n ts j (by omega);rw[gu (show j<ts.length by omega)];split
  ·rw[iO];omega
  ·exact ih
theorem Jw{l:List Pt}(a n n':Int)(hn:n≤n')(ts:List Tk):∀j,j≤ts.length→og l a n' ts j≤og l a n ts j
 |0,_=>by simp[og]
 |j+1,hj=>by
  have ih:=Jw (l:=l) a n n' hn ts j (by omega);have hlt:j<ts.length:=by omega
  rw[gu hlt,gu hlt];split
  ·rw[if_pos (by omega),iO,iO];omega
  ·split
   ·rw[iO];omega
   ·exact ih
theorem B2{l:List Pt}(a n:Int)(ts:List Tk)(hd:∀t,t∈ts→t.d≤n):∀j,j≤ts.length→og l a n ts j=0
 |0,_=>by simp[og]
 |j+1,hj=>by
  have hlt:j<ts.length:=by omega
  have:=hd _ (List.getElem_mem hlt);rw[gu hlt,if_neg (by omega),B2 a n ts hd j (by omega)]
theorem PL{l:List Pt}(a n:Int)(ts:List Tk):∀j,j≤ts.length→∀(i:Nat) (hi:i<ts.length),i<j→ts[i].d>n→ez l a ts[i]≤og l a n ts j
 |0,_,i,_,hij,_=>by omega
 |j+1,hj,i,hi,hij,hd=>by
  have hlt:j<ts.length:=by omega
  rw[gu hlt];by_cases hji:i=j
  ·subst hji;rw[if_pos hd,iO];omega
  ·have ih:=PL (l:=l) a n ts j (by omega) i hi (by omega) hd;split
   ·rw[iO];omega
   ·exact ih
theorem LB{l:List Pt}(h:aB l=0){i:Nat}(hi:i<l.length){n:Int}(hn:0≤n):qX l (i:Nat) n=(og l (i:Nat) n l[i].ts l[i].ts.length,0):=by
 rw[qX,if_neg (by omega),if_neg (by omega),show((i:Int)).toNat=i from rfl,List.getElem?_eq_getElem hi];simp only;rw[if_neg (by omega)]
end Ir
end Go.Proofs.Ytecdcefacdodgaa
