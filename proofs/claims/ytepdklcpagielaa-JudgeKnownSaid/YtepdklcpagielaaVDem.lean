/-
  Demand: the tasks. Demand: rows of tasks. Demand: ContainsFunc over numbers and tasks. Demand: what is refused. Demand: what the document's Check refuses. Demand: jobs of a task; each; sum. Demand: each. Demand: Of. Demand: the document's Of. Demand: Use of both. Demand: Hyper of the program. Demand: what is asked for, without ends of the numbers.
-/
import Derived.Test.YtepdklcpagielaaIrLink
import Derived.Test.YtepdklcpagielaaVsLoop
import Derived.Test.YtepdklcpagielaaZA
import Derived.Test.YtepdklcpagielaaVTick
set_option maxRecDepth 100000
set_option linter.unusedSimpArgs false
set_option linter.unusedVariables false
namespace Go.Proofs.Ytepdklcpagielaa
open Go Ads
namespace Ir
structure Tk where
 p:Int
 d:Int
 w:Int
 a:Int
 b:Int
 c:Int
 e:Int
 f:Int
def tk(t:Tk):AV:=.agg [.int .i64 t.p,.int .i64 t.d,.int .i64 t.w,.int .i64 t.a,.int .i64 t.b,.int .i64 t.c,.int .i64 t.e,.int .i64 t.f]
def dI(l:List Tk):List AV:=l.map tk
def fc(t:Tk):Bool:=decide (1≤t.w∧t.w≤t.d∧t.d≤t.p∧t.p≤64)
theorem WR(t:Tk):PC fs ms 127 [tk t] (.bool (fc t)):=by
 refine aX rfl rfl ?_;refine aC (af:=N2) false rfl (Nat.le_of_ble_eq_true rfl) ?_;generalize hQ:(fun(v:AV) (_:Heap)=>v=.bool (fc t))=Q;conv=>whnf
 iterate 8 (all_goals (first|(refine br (fun hc=>?_) (fun hc=>?_)<;>(try rw[hc])<;>(conv=>whnf))|skip))
 all_goals (subst hQ;simp only[fc];refine congrArg AV.bool ?_;rw[Bool.eq_iff_iff];simp at*;omega)
end Ir
end Go.Proofs.Ytepdklcpagielaa
set_option maxRecDepth 100000
set_option linter.unusedSimpArgs false
set_option linter.unusedVariables false
namespace Go.Proofs.Ytepdklcpagielaa
open Go Ads
namespace Ir
theorem cq(l:List Tk):bL (dI l)=true:=pZ (enc:=tk) (fun _=>rfl) l
theorem bM(l:List Tk):(dI l).length=l.length:=List.length_map ..
theorem iP{l:List Tk}{j k:Nat}(hj:j<l.length):pV (.aE 8) [.fz k (dI l),.int .i64 (j:Nat)]=some (.fp (tk l[j]).cells 0):=vf (enc:=tk) hj rfl
def dX(l:List Tk):Bool:=l.all fc&&decide (l.length≤4)
end Ir
end Go.Proofs.Ytepdklcpagielaa
set_option maxRecDepth 100000
set_option linter.unusedSimpArgs false
set_option linter.unusedVariables false
namespace Go.Proofs.Ytepdklcpagielaa
open Go Ads
namespace Ir
theorem S0{F:Nat}{aN:List AV}{p:Int→Bool}(k:Nat)(l:List Int)(hl:l.length<2^62)(hcap:bL aN=true)(hp:∀m,PC fs ms F (.int .i64 m::aN) (.bool (p m))):
  ∃n:Int,PC fs ms 141 [.fz k (ints l),.func (.func F) [] aN] (.int .i64 n)∧decide (n≥0)=l.any p:=by
 by_cases ha:l.any p=true
 ·obtain⟨j,hj,h1,h2⟩:=ng (l:=l) (p:=fun m=>p m=true) (by simpa using ha);refine⟨(j:Nat),?_,by rw[ha];simp⟩;refine aX (by simp[bL,AV.cl,aS,hcap]) rfl ?_;refine aC (af:=J9) false rfl (Nat.le_of_ble_eq_true rfl) ?_;generalize hQ:(fun(v:AV) (_:Heap)=>v=.int .i64 (j:Nat))=Q;conv=>whnf
  refine ei 5 [(0,.fz k (ints l)),(1,.func (.func F) [] aN),(7,.int .i64 (ints l).length),(8,.int .i64 ((0:Nat):Int))] (by repeat' (first|exact trivial|refine bI rfl (by omega) ?_|refine bg rfl (by omega) ?_|refine aR rfl (by omega) ?_|refine aJ rfl (by first|rfl|simp[bL,AV.cl,aS,hcap]) ?_|refine aJ (ay (by omega)) rfl ?_)) ?_;refine fe 5 j (fun _=>True) (fun i=>[(0,.fz k (ints l)),(1,.func (.func F) [] aN),(7,.int .i64 (ints l).length),(8,.int .i64 (i:Nat))]) ?_ ?_ trivial
  ·intro i hi _;conv=>whnf
   refine br (fun hc=>?_) (fun hc=>?_)<;>(try rw[hc])<;>(conv=>whnf)
   ·refine⟨_,jR (by omega),?_⟩;conv=>whnf
    refine au (hp _) ?_;conv=>whnf
    refine br (fun hc=>?_) (fun hc=>?_)<;>(try rw[hc])<;>(conv=>whnf)
    ·exact absurd hc (h2 i (by omega) hi)
    ·refine⟨trivial,⟨_,rfl,.cl (by simp[AV.cl,aS])⟩,⟨_,rfl,.cl (by simp[AV.cl,bL,hcap])⟩,⟨_,rfl,.cl rfl⟩,⟨_,ay (by omega),.cl rfl⟩,trivial⟩
   ·exfalso;have:=of_decide_eq_false hc;rw[cu] at this;omega
  ·intro _;conv=>whnf
   refine br (fun hc=>?_) (fun hc=>?_)<;>(try rw[hc])<;>(conv=>whnf)
   ·refine⟨_,jR hj,?_⟩;conv=>whnf
    refine au (hp _) ?_;conv=>whnf
    refine br (fun hc=>?_) (fun hc=>?_)<;>(try rw[hc])<;>(conv=>whnf)
    ·subst hQ;rfl
    ·rw[h1] at hc;simp at hc
   ·exfalso;have:=of_decide_eq_false hc;rw[cu] at this;omega
 ·have hn:∀m,m∈l→p m=false:=by
   intro m hm;rw[Bool.eq_false_iff];intro h;exact ha (List.any_eq_true.2 ⟨m,hm,h⟩)
  refine⟨-1,?_,by rw[Bool.eq_false_iff.2 ha];decide⟩;refine aX (by simp[bL,AV.cl,aS,hcap]) rfl ?_;refine aC (af:=J9) false rfl (Nat.le_of_ble_eq_true rfl) ?_;generalize hQ:(fun(v:AV) (_:Heap)=>v=.int .i64 (-1))=Q;conv=>whnf
  refine ei 5 [(0,.fz k (ints l)),(1,.func (.func F) [] aN),(7,.int .i64 (ints l).length),(8,.int .i64 ((0:Nat):Int))] (by repeat' (first|exact trivial|refine bI rfl (by omega) ?_|refine bg rfl (by omega) ?_|refine aR rfl (by omega) ?_|refine aJ rfl (by first|rfl|simp[bL,AV.cl,aS,hcap]) ?_|refine aJ (ay (by omega)) rfl ?_)) ?_;refine fe 5 l.length (fun _=>True) (fun i=>[(0,.fz k (ints l)),(1,.func (.func F) [] aN),(7,.int .i64 (ints l).length),(8,.int .i64 (i:Nat))]) ?_ ?_ trivial
  ·intro i hi _;conv=>whnf
   refine br (fun hc=>?_) (fun hc=>?_)<;>(try rw[hc])<;>(conv=>whnf)
   ·refine⟨_,jR (by omega),?_⟩;conv=>whnf
    refine au (hp _) ?_;conv=>whnf
    refine br (fun hc=>?_) (fun hc=>?_)<;>(try rw[hc])<;>(conv=>whnf)
    ·rw[hn _ (List.getElem_mem hi)] at hc;simp at hc
    ·refine⟨trivial,⟨_,rfl,.cl (by simp[AV.cl,aS])⟩,⟨_,rfl,.cl (by simp[AV.cl,bL,hcap])⟩,⟨_,rfl,.cl rfl⟩,⟨_,ay (by omega),.cl rfl⟩,trivial⟩
   ·exfalso;have:=of_decide_eq_false hc;rw[cu] at this;omega
  ·intro _;conv=>whnf
   refine br (fun hc=>?_) (fun hc=>?_)<;>(try rw[hc])<;>(conv=>whnf)
   ·exfalso;have:=of_decide_eq_true hc;rw[cu] at this;omega
   ·subst hQ;rfl
theorem UX{F:Nat}{aN:List AV}{p:Int→Bool}(k:Nat)(l:List Int)(hl:l.length<2^62)(hcap:bL aN=true)(hp:∀m,PC fs ms F (.int .i64 m::aN) (.bool (p m))):
  PC fs ms 132 [.fz k (ints l),.func (.func F) [] aN] (.bool (l.any p)):=by
 obtain⟨n,c1,c2⟩:=S0 k l hl hcap hp;refine aX (by simp[bL,AV.cl,aS,hcap]) rfl ?_;refine aC (af:=N7) false rfl (Nat.le_of_ble_eq_true rfl) ?_;generalize hQ:(fun(v:AV) (_:Heap)=>v=.bool (l.any p))=Q;conv=>whnf
 refine au c1 ?_;conv=>whnf
 subst hQ;exact congrArg AV.bool c2
theorem S4{F:Nat}{aN:List AV}{p:Tk→Bool}(k:Nat)(l:List Tk)(hl:l.length<2^62)(hcap:bL aN=true)(hp:∀m,m∈l→PC fs ms F (tk m::aN) (.bool (p m))):
  ∃n:Int,PC fs ms 100 [.fz k (dI l),.func (.func F) [] aN] (.int .i64 n)∧decide (n≥0)=l.any p:=by
 by_cases ha:l.any p=true
 ·obtain⟨j,hj,h1,h2⟩:=ng (l:=l) (p:=fun m=>p m=true) (by simpa using ha);refine⟨(j:Nat),?_,by rw[ha];simp⟩;refine aX (by simp[bL,AV.cl,cq,hcap]) rfl ?_;refine aC (af:=J6) false rfl (Nat.le_of_ble_eq_true rfl) ?_;generalize hQ:(fun(v:AV) (_:Heap)=>v=.int .i64 (j:Nat))=Q;conv=>whnf
  refine ei 5 [(0,.fz k (dI l)),(1,.func (.func F) [] aN),(7,.int .i64 (dI l).length),(8,.int .i64 ((0:Nat):Int))] (by repeat' (first|exact trivial|refine bI rfl (by omega) ?_|refine bg rfl (by omega) ?_|refine aR rfl (by omega) ?_|refine aJ rfl (by first|rfl|simp[bL,AV.cl,aS,cq,hcap]) ?_|refine aJ (ay (by omega)) rfl ?_)) ?_;refine fe 5 j (fun _=>True) (fun i=>[(0,.fz k (dI l)),(1,.func (.func F) [] aN),(7,.int .i64 (dI l).length),(8,.int .i64 (i:Nat))]) ?_ ?_ trivial
  ·intro i hi _;conv=>whnf
   refine br (fun hc=>?_) (fun hc=>?_)<;>(try rw[hc])<;>(conv=>whnf)
   ·refine⟨_,iP (by omega),?_⟩;conv=>whnf
    refine au (hp _ (List.getElem_mem _)) ?_;conv=>whnf
    refine br (fun hc=>?_) (fun hc=>?_)<;>(try rw[hc])<;>(conv=>whnf)
    ·exact absurd hc (h2 i (by omega) hi)
    ·refine⟨trivial,⟨_,rfl,.cl (by simp[AV.cl,cq])⟩,⟨_,rfl,.cl (by simp[AV.cl,bL,hcap])⟩,⟨_,rfl,.cl rfl⟩,⟨_,ay (by omega),.cl rfl⟩,trivial⟩
   ·exfalso;have:=of_decide_eq_false hc;rw[bM] at this;omega
  ·intro _;conv=>whnf
   refine br (fun hc=>?_) (fun hc=>?_)<;>(try rw[hc])<;>(conv=>whnf)
   ·refine⟨_,iP hj,?_⟩;conv=>whnf
    refine au (hp _ (List.getElem_mem _)) ?_;conv=>whnf
    refine br (fun hc=>?_) (fun hc=>?_)<;>(try rw[hc])<;>(conv=>whnf)
    ·subst hQ;rfl
    ·rw[h1] at hc;simp at hc
   ·exfalso;have:=of_decide_eq_false hc;rw[bM] at this;omega
 ·have hn:∀m,m∈l→p m=false:=by
   intro m hm;rw[Bool.eq_false_iff];intro h;exact ha (List.any_eq_true.2 ⟨m,hm,h⟩)
  refine⟨-1,?_,by rw[Bool.eq_false_iff.2 ha];decide⟩;refine aX (by simp[bL,AV.cl,cq,hcap]) rfl ?_;refine aC (af:=J6) false rfl (Nat.le_of_ble_eq_true rfl) ?_;generalize hQ:(fun(v:AV) (_:Heap)=>v=.int .i64 (-1))=Q;conv=>whnf
  refine ei 5 [(0,.fz k (dI l)),(1,.func (.func F) [] aN),(7,.int .i64 (dI l).length),(8,.int .i64 ((0:Nat):Int))] (by repeat' (first|exact trivial|refine bI rfl (by omega) ?_|refine bg rfl (by omega) ?_|refine aR rfl (by omega) ?_|refine aJ rfl (by first|rfl|simp[bL,AV.cl,aS,cq,hcap]) ?_|refine aJ (ay (by omega)) rfl ?_)) ?_;refine fe 5 l.length (fun _=>True) (fun i=>[(0,.fz k (dI l)),(1,.func (.func F) [] aN),(7,.int .i64 (dI l).length),(8,.int .i64 (i:Nat))]) ?_ ?_ trivial
  ·intro i hi _;conv=>whnf
   refine br (fun hc=>?_) (fun hc=>?_)<;>(try rw[hc])<;>(conv=>whnf)
   ·refine⟨_,iP (by omega),?_⟩;conv=>whnf
    refine au (hp _ (List.getElem_mem _)) ?_;conv=>whnf
    refine br (fun hc=>?_) (fun hc=>?_)<;>(try rw[hc])<;>(conv=>whnf)
    ·rw[hn _ (List.getElem_mem hi)] at hc;simp at hc
    ·refine⟨trivial,⟨_,rfl,.cl (by simp[AV.cl,cq])⟩,⟨_,rfl,.cl (by simp[AV.cl,bL,hcap])⟩,⟨_,rfl,.cl rfl⟩,⟨_,ay (by omega),.cl rfl⟩,trivial⟩
   ·exfalso;have:=of_decide_eq_false hc;rw[bM] at this;omega
  ·intro _;conv=>whnf
   refine br (fun hc=>?_) (fun hc=>?_)<;>(try rw[hc])<;>(conv=>whnf)
   ·exfalso;have:=of_decide_eq_true hc;rw[bM] at this;omega
   ·subst hQ;rfl
theorem DE{F:Nat}{aN:List AV}{p:Tk→Bool}(k:Nat)(l:List Tk)(hl:l.length<2^62)(hcap:bL aN=true)(hp:∀m,m∈l→PC fs ms F (tk m::aN) (.bool (p m))):
  PC fs ms 80 [.fz k (dI l),.func (.func F) [] aN] (.bool (l.any p)):=by
 obtain⟨n,c1,c2⟩:=S4 k l hl hcap hp;refine aX (by simp[bL,AV.cl,cq,hcap]) rfl ?_;refine aC (af:=Ym) false rfl (Nat.le_of_ble_eq_true rfl) ?_;generalize hQ:(fun(v:AV) (_:Heap)=>v=.bool (l.any p))=Q;conv=>whnf
 refine au c1 ?_;conv=>whnf
 subst hQ;exact congrArg AV.bool c2
end Ir
end Go.Proofs.Ytepdklcpagielaa
set_option maxRecDepth 100000
set_option linter.unusedSimpArgs false
set_option linter.unusedVariables false
namespace Go.Proofs.Ytepdklcpagielaa
open Go Ads
namespace Ir
theorem Ki(t:Tk):PC fs ms 126 [tk t] (.bool (!fc t)):=by
 refine aX rfl rfl ?_;refine aC (af:=N1) false rfl (Nat.le_of_ble_eq_true rfl) ?_;generalize hQ:(fun(v:AV) (_:Heap)=>v=.bool (!fc t))=Q;conv=>whnf
 refine au (WR _) ?_;conv=>whnf
 subst hQ;rfl
theorem Ow(l:List Tk):(l.any fun t=>!fc t)=!l.all fc:=by
 induction l with
 |nil=>rfl
 |cons t l ih=>simp only[List.any_cons,List.all_cons,ih,Bool.not_and]
theorem QG(k:Nat)(l:List Tk)(hl:l.length<2^62):PC fs ms 114 [.fz k (dI l)] (.bool (dX l)):=by
 refine aX (by simp[bL,AV.cl,cq]) rfl ?_;refine aC (af:=NQ) false rfl (Nat.le_of_ble_eq_true rfl) ?_;generalize hQ:(fun(v:AV) (_:Heap)=>v=.bool (dX l))=Q;conv=>whnf
 refine br (fun hc=>?_) (fun hc=>?_)<;>(try rw[hc])<;>(conv=>whnf)
 ·refine au (DE k l hl rfl (fun m _=>Ki m)) ?_;conv=>whnf
  subst hQ;refine congrArg AV.bool ?_;have:=of_decide_eq_true hc;rw[bM] at this;rw[Ow,Bool.not_not,dX,decide_eq_true (by omega),Bool.and_true]
 ·subst hQ;refine congrArg AV.bool ?_;have:=of_decide_eq_false hc;rw[bM] at this;rw[dX,decide_eq_false (by omega),Bool.and_false]
def m5(n:Int):Bool:=decide (n<0)||decide (n>32768)
theorem Fu(n:Int):PC fs ms 133 [.int .i64 n] (.bool (m5 n)):=by
 refine aX rfl rfl ?_;refine aC (af:=N8) false rfl (Nat.le_of_ble_eq_true rfl) ?_;generalize hQ:(fun(v:AV) (_:Heap)=>v=.bool (m5 n))=Q;conv=>whnf
 refine br (fun hc=>?_) (fun hc=>?_)<;>(try rw[hc])<;>(conv=>whnf)
 ·subst hQ;simp only[m5,hc,Bool.true_or]
 ·subst hQ;simp only[m5,hc,Bool.false_or]
def eM(l:List Tk)(a:List Int):Int:=if a.any m5=false∧dX l=true∧a.length=l.length then 0 else 2
theorem Ck(k k':Nat)(l:List Tk)(a:List Int)(hl:l.length<2^62)(ha:a.length<2^62):PC fs ms 116 [.fz k (dI l),.fz k' (ints a)] (.int .i64 (eM l a)):=by
 refine aX (by simp[bL,AV.cl,cq,aS]) rfl ?_;refine aC (af:=NT) false rfl (Nat.le_of_ble_eq_true rfl) ?_;generalize hQ:(fun(v:AV) (_:Heap)=>v=.int .i64 (eM l a))=Q;conv=>whnf
 refine au (UX k' a ha rfl Fu) ?_;conv=>whnf
 refine br (fun hc=>?_) (fun hc=>?_)<;>(try rw[hc])<;>(conv=>whnf)
 ·subst hQ;simp[eM,hc]
 ·refine au (QG k l hl) ?_;have h1:=hc;conv=>whnf
  refine br (fun hc=>?_) (fun hc=>?_)<;>(try rw[hc])<;>(conv=>whnf)
  ·subst hQ;simp at hc;simp[eM,hc]
  ·have h2:=hc;refine br (fun hc=>?_) (fun hc=>?_)<;>(try rw[hc])<;>(conv=>whnf)
   ·subst hQ;simp[cu,bM] at hc;rw[eM,if_neg (fun h=>by omega)]
   ·subst hQ;simp[cu,bM] at hc;simp at h2;rw[eM,if_pos ⟨h1,h2,by omega⟩]
end Ir
end Go.Proofs.Ytepdklcpagielaa
set_option maxRecDepth 100000
set_option linter.unusedSimpArgs false
set_option linter.unusedVariables false
namespace Go.Proofs.Ytepdklcpagielaa
open Go Ads
namespace Ir
end Ir
end Go.Proofs.Ytepdklcpagielaa
set_option maxRecDepth 100000
set_option linter.unusedSimpArgs false
set_option linter.unusedVariables false
namespace Go.Proofs.Ytepdklcpagielaa
open Go Ads
namespace Ir
def tT(n:Int)(t:Tk):Int:=if n<t.d then 0 else IntKind.i64.wrap (1+IntKind.i64.wrap ((IntKind.i64.wrap (n-t.d)).tdiv t.p))
theorem S6(n:Int)(t:Tk)(hp:t.p≠0):PC fs ms 142 [tk t,.fp [.int .i64 n] 0] (.int .i64 (tT n t)):=by
 refine aX rfl rfl ?_;refine aC (af:=Og) false rfl (Nat.le_of_ble_eq_true rfl) ?_;generalize hQ:(fun(v:AV) (_:Heap)=>v=.int .i64 (tT n t))=Q;conv=>whnf
 refine br (fun hc=>?_) (fun hc=>?_)<;>(try rw[hc])<;>(conv=>whnf)
 ·subst hQ;rw[tT,if_pos (of_decide_eq_true hc)]
 ·refine⟨_,jU _ _ hp,?_⟩;conv=>whnf
  subst hQ;rw[tT,if_neg (of_decide_eq_false hc)]
def mK(l:List Int):Int:=l.foldl (fun s x=>IntKind.i64.wrap (s+x)) 0
theorem KM(k:Nat)(l:List Int)(hl:l.length<2^62):PC fs ms 118 [.fz k (ints l)] (.int .i64 (mK l)):=by
 refine aX (by simp[bL,AV.cl,aS]) rfl ?_;refine aC (af:=NV) false rfl (Nat.le_of_ble_eq_true rfl) ?_;generalize hQ:(fun(v:AV) (_:Heap)=>v=.int .i64 (mK l))=Q;conv=>whnf
 refine ei 5 [(2,.int .i64 (mK (l.take 0))),(5,.fz k (ints l)),(6,.int .i64 (ints l).length),(7,.int .i64 ((0:Nat):Int))] (by repeat' (first|exact trivial|refine bI rfl (by omega) ?_|refine bg rfl (by omega) ?_|refine aR rfl (by omega) ?_|refine aJ rfl (by first|rfl|simp[bL,AV.cl,aS]) ?_|refine aJ (ay (by omega)) rfl ?_)) ?_;refine fe 5 l.length (fun _=>True) (fun j=>[(2,.int .i64 (mK (l.take j))),(5,.fz k (ints l)),(6,.int .i64 (ints l).length),(7,.int .i64 (j:Nat))]) ?_ ?_ trivial
 ·intro j hj _;conv=>whnf
  refine br (fun hc=>?_) (fun hc=>?_)<;>(try rw[hc])<;>(conv=>whnf)
  ·refine⟨_,jR hj,?_⟩;conv=>whnf
   refine⟨trivial,⟨_,congrArg (fun n=>some (AV.int .i64 n)) ?_,.cl rfl⟩,⟨_,rfl,.cl (by simp[AV.cl,aS])⟩,⟨_,rfl,.cl rfl⟩,⟨_,ay (by omega),.cl rfl⟩,trivial⟩;rw[eY hj];simp only[mK,List.foldl_append];rfl
  ·exfalso;have:=of_decide_eq_false hc;rw[cu] at this;omega
 ·intro _;conv=>whnf
  refine br (fun hc=>?_) (fun hc=>?_)<;>(try rw[hc])<;>(conv=>whnf)
  ·exfalso;have:=of_decide_eq_true hc;rw[cu] at this;omega
  ·subst hQ;rw[List.take_length]
end Ir
end Go.Proofs.Ytepdklcpagielaa
set_option maxRecDepth 100000
set_option linter.unusedSimpArgs false
set_option linter.unusedVariables false
namespace Go.Proofs.Ytepdklcpagielaa
open Go Ads
namespace Ir
def Vc(ts:List Int)(j:Nat):Heap:=⟨1,.node .nil (some (.cells (ints (kf ts j)) true 0)) .nil⟩
theorem KP{F:Nat}{aN:List AV}{q:Tk→Int}(k k':Nat)(l:List Tk)(a ts:List Int)(hl:l.length≤1048576)(ha:a.length=l.length)(ht:ts.length=l.length)(hcap:bL aN=true)
  (hp:∀t,t∈l→PC fs ms F (tk t::aN) (.int .i64 (q t)))(hts:∀(j:Nat) (h1:j<l.length) (h2:j<a.length) (h3:j<ts.length),ts[j]=IntKind.i64.wrap (q l[j]*IntKind.i64.wrap (l[j].w+a[j]))):
  PC fs ms 119 [.fz k (dI l),.fz k' (ints a),.func (.func F) [] aN] (.fz 2 (ints ts)):=by
 refine⟨by simp[bL,AV.cl,cq,aS,hcap],by simp[AV.cl,aS],?_⟩;refine aC (af:=NW) false rfl (Nat.le_of_ble_eq_true rfl) ?_;generalize hQ:(fun(v:AV) (g:Heap)=>jo (fun _=>True) g v (.fz 2 (ints ts)))=Q;conv=>whnf
 refine⟨_,_,by rw[bM];exact CH (by omega),?_⟩;conv=>whnf
 refine Nh 6 [(1,.fz k' (ints a)),(2,.func (.func F) [] aN),(7,.sl 0 0 l.length l.length false),(13,.fz k (dI l)),(14,.int .i64 (dI l).length),(15,.int .i64 ((0:Nat):Int))] 1 [(0,.cells (ints (kf ts 0)) true 0)] id (by repeat' (first|exact trivial|refine bI rfl (by omega) ?_|refine bg rfl (by omega) ?_|refine aR rfl (by omega) ?_|refine aJ rfl (by first|rfl|simp[bL,AV.cl,aS,cq,hcap]) ?_|refine aJ (ay (by omega)) rfl ?_)) ⟨by omega,⟨_,rfl,tj (by rw[Bn,ht])⟩,trivial⟩ (by intro b c hb hc _;simp at hb hc;omega) (fun b hb=>rfl) (Nat.zero_le _) ?_;refine o9 0 6 l.length (fun _=>True) (fun j=>[(1,.fz k' (ints a)),(2,.func (.func F) [] aN),(7,.sl 0 0 l.length l.length false),(13,.fz k (dI l)),(14,.int .i64 (dI l).length),(15,.int .i64 (j:Nat))]) (Vc ts) ?_ ?_ trivial
 ·intro j hj _;show tJ fs ms 0 false false _ _ ⟨1,.node .nil (some (.cells (ints (kf ts j)) true 0)) .nil⟩ _;conv=>whnf
  refine br (fun hc=>?_) (fun hc=>?_)<;>(try rw[hc])<;>(conv=>whnf)
  ·refine⟨_,iP hj,?_⟩;conv=>whnf
   refine au (hp l[j] (List.getElem_mem hj)) ?_;conv=>whnf
   refine⟨_,jR (by omega),?_⟩;conv=>whnf
   refine⟨_,LO hj,?_⟩;conv=>whnf
   refine brT (by show(Nat.ble (j+1) (ints (kf ts j)).length&&true)=true;rw[cu,rM ts (by omega),Bool.and_true];exact Nat.ble_eq_true_of_le (by omega)) ?_;conv=>whnf
   refine⟨dc (by(conv=>whnf);repeat' (first|exact trivial|(exact⟨rfl,rfl,.inr ⟨_,_,rfl⟩⟩)|(refine⟨rfl,rfl,.inl ⟨rfl,fun o ho=>?_⟩⟩;cases ho;first|rfl)|(exact⟨rfl,.inr ⟨_,_,rfl⟩⟩)|(refine⟨rfl,.inl ⟨rfl,fun i o hi ho=>?_⟩⟩;cases hi;cases ho;first|rfl)|(refine And.intro (fun dZ=>(Bool.false_ne_true dZ).elim) ?_<;>conv=>whnf)|(refine And.intro (fun _=>?_) ?_<;>conv=>whnf)|(refine And.intro ?_ ?_<;>conv=>whnf))),?_⟩;conv=>whnf
   refine⟨trivial,id,QM (n:=1) (m:=[(0,_)]) _ (by repeat' (first|exact trivial|refine bI rfl (by omega) ?_|refine bg rfl (by omega) ?_|refine aR rfl (by omega) ?_|refine aJ rfl (by first|rfl|simp[bL,AV.cl,aS,cq,hcap]) ?_|refine aJ (ay (by omega)) rfl ?_)) ⟨by omega,⟨_,rfl,tj (DT ts (by omega) (hts j hj (by omega) (by omega)).symm)⟩,trivial⟩ (by intro b c hb hc _;simp at hb hc;omega) (by intro b hb;omega) (by omega)⟩
  ·exfalso;have:=of_decide_eq_false hc;rw[bM] at this;omega
 ·intro _;show tJ fs ms 0 false false _ _ ⟨1,.node .nil (some (.cells (ints (kf ts l.length)) true 0)) .nil⟩ _;conv=>whnf
  refine br (fun hc=>?_) (fun hc=>?_)<;>(try rw[hc])<;>(conv=>whnf)
  ·exfalso;have:=of_decide_eq_true hc;rw[bM] at this;omega
  ·subst hQ;rw[←ht,DR];exact .row (s:=1) trivial rfl (sS ts).symm (lF ts) (by rw[cu,ht]) (Nat.le_refl _) (by omega) (fun _=>rfl) (fun _=>rfl) (aS ts)
end Ir
end Go.Proofs.Ytepdklcpagielaa
set_option maxRecDepth 100000
set_option linter.unusedSimpArgs false
set_option linter.unusedVariables false
namespace Go.Proofs.Ytepdklcpagielaa
open Go Ads
namespace Ir
def ud(q:Tk→Int)(l:List Tk)(a:List Int):List Int:=List.zipWith (fun t m=>IntKind.i64.wrap (q t*IntKind.i64.wrap (t.w+m))) l a
def OG(l:List Tk)(a:List Int)(n:Int):Int×Int:=if eM l a=0∧0≤n∧n≤1048576 then(mK (ud (tT n) l a),0) else(0,2)
def qO(p:Int×Int):AV:=.cQ [.int .i64 p.1,.int .i64 p.2]
theorem xe{l:List Tk}{a:List Int}(h:eM l a=0):a.any m5=false∧dX l=true∧a.length=l.length:=by
 unfold eM at h;split at h
 ·assumption
 ·simp at h
theorem pP{l:List Tk}(h:dX l=true){t:Tk}(ht:t∈l):fc t=true∧1≤t.p:=by
 simp only[dX,Bool.and_eq_true,List.all_eq_true,decide_eq_true_eq] at h;have:fc t=true:=by first|exact h.1 t ht|exact h.2 t ht
 refine⟨this,?_⟩;simp only[fc,decide_eq_true_eq] at this;omega
theorem xD{l:List Tk}(h:dX l=true):l.length≤4:=by
 simp only[dX,Bool.and_eq_true,decide_eq_true_eq] at h;first|exact h.1|exact h.2
theorem U5(k k':Nat)(l:List Tk)(a:List Int)(n:Int)(hl:l.length<2^62)(ha:a.length<2^62):PC fs ms 134 [.fz k (dI l),.fz k' (ints a),.int .i64 n] (qO (OG l a n)):=by
 refine aX (by simp[bL,AV.cl,aS,cq]) rfl ?_;refine bw (af:=Oa) rfl (Nat.le_of_ble_eq_true rfl) ?_;generalize hQ:(fun(v:AV) (_:Heap)=>v=qO (OG l a n))=Q;conv=>whnf
 refine aj false ?_;conv=>whnf
 refine aj false ?_;conv=>whnf
 refine au (Ck k k' l a hl ha) ?_;conv=>whnf
 iterate 4 (all_goals (first|(refine br (fun hc=>?_) (fun hc=>?_)<;>(try rw[hc])<;>(conv=>whnf))|skip))
 ·subst hQ;simp at hc;simp[OG,hc,qO]
 ·subst hQ;simp at hc;rw[OG,if_neg (by omega)];rfl
 ·subst hQ;simp at hc;rw[OG,if_neg (by omega)];rfl
 ·have h0:eM l a=0:=by rename_i h1 h2;simpa using h1
  obtain⟨h9,h1,h2⟩:=xe h0;have h3:=xD h1;refine dV [0] (i:=5) (v':=.fp [.int .i64 n] 0) rfl (.ptr' (by simp) rfl (.clean rfl)) ?_;refine aa (z:=false) ?_;conv=>whnf
  refine au (KP (q:=tT n) k k' l a (ud (tT n) l a) (by omega) h2 (by simp[ud,h2]) rfl (fun t ht=>S6 n t (by have:=(pP h1 ht).2;omega)) (fun j _ _ _=>by simp[ud])) ?_;conv=>whnf
  refine au (KM _ _ (by simp[ud];omega)) ?_;conv=>whnf
  subst hQ;rename_i c1 c2;simp at hc c2;rw[OG,if_pos (by omega)];rfl
end Ir
end Go.Proofs.Ytepdklcpagielaa
set_option maxRecDepth 100000
set_option linter.unusedSimpArgs false
set_option linter.unusedVariables false
namespace Go.Proofs.Ytepdklcpagielaa
open Go Ads
namespace Ir
theorem UC{l:List Int}{j:Nat}(h:j<l.length):mK (l.take (j+1))=IntKind.i64.wrap (mK (l.take j)+l[j]):=by
 rw[eY h,mK,List.foldl_append];rfl
theorem Zv(l:List Int):IntKind.i64.wrap (mK l)=mK l:=by
 rcases List.eq_nil_or_concat l with h|⟨m,x,h⟩
 ·subst h;rfl
 ·subst h;rw[List.concat_eq_append,mK,List.foldl_append];show IntKind.i64.wrap (IntKind.i64.wrap (_+x))=IntKind.i64.wrap (_+x);exact wrap_wrap _
end Ir
end Go.Proofs.Ytepdklcpagielaa
set_option maxRecDepth 100000
set_option linter.unusedSimpArgs false
set_option linter.unusedVariables false
namespace Go.Proofs.Ytepdklcpagielaa
open Go Ads
namespace Ir
def E0(n:Int)(t:Tk):Int:=IntKind.i64.wrap (n.tdiv t.p)
def Jg(n:Int)(t:Tk):Bool:=n.tmod t.p !=0
def yC(l:List Tk)(a:List Int)(n:Int):Int×Int:=if eM l a=0∧1≤n∧n≤1048576∧l.any (Jg n)=false then(mK (ud (E0 n) l a),0) else(0,2)
theorem T1(n:Int)(t:Tk)(hp:t.p≠0):PC fs ms 117 [tk t,.fp [.int .i64 n] 0] (.bool (Jg n t)):=by
 refine aX rfl rfl ?_;refine aC (af:=NU) false rfl (Nat.le_of_ble_eq_true rfl) ?_;generalize hQ:(fun(v:AV) (_:Heap)=>v=.bool (Jg n t))=Q;conv=>whnf
 refine⟨_,ya _ _ hp,?_⟩;conv=>whnf
 subst hQ;rfl
theorem T2(n:Int)(t:Tk)(hp:t.p≠0):PC fs ms 120 [tk t,.fp [.int .i64 n] 0] (.int .i64 (E0 n t)):=by
 refine aX rfl rfl ?_;refine aC (af:=NX) false rfl (Nat.le_of_ble_eq_true rfl) ?_;generalize hQ:(fun(v:AV) (_:Heap)=>v=.int .i64 (E0 n t))=Q;conv=>whnf
 refine⟨_,jU _ _ hp,?_⟩;conv=>whnf
 subst hQ;rfl
theorem RO(k k':Nat)(l:List Tk)(a:List Int)(n:Int)(hl:l.length<2^62)(ha:a.length<2^62):PC fs ms 108 [.fz k (dI l),.fz k' (ints a),.int .i64 n] (qO (yC l a n)):=by
 refine aX (by simp[bL,AV.cl,aS,cq]) rfl ?_;refine bw (af:=NM) rfl (Nat.le_of_ble_eq_true rfl) ?_;generalize hQ:(fun(v:AV) (_:Heap)=>v=qO (yC l a n))=Q;conv=>whnf
 refine aj false ?_;conv=>whnf
 refine aj false ?_;conv=>whnf
 refine au (Ck k k' l a hl ha) ?_;conv=>whnf
 iterate 4 (all_goals (first|(refine br (fun hc=>?_) (fun hc=>?_)<;>(try rw[hc])<;>(conv=>whnf))|skip))
 ·subst hQ;simp at hc;simp[yC,hc,qO]
 ·subst hQ;simp at hc;rw[yC,if_neg (by omega)];rfl
 ·subst hQ;simp at hc;rw[yC,if_neg (by omega)];rfl
 ·rename_i c0 c1;have h0:eM l a=0:=by simpa using c0
  obtain⟨h9,h1,h2⟩:=xe h0;have h3:=xD h1;simp at hc c1;refine dV [0] (i:=5) (v':=.fp [.int .i64 n] 0) rfl (.ptr' (by simp) rfl (.clean rfl)) ?_;refine aa (z:=false) ?_;conv=>whnf
  refine au (DE (p:=Jg n) k l hl rfl (fun t ht=>T1 n t (by have:=(pP h1 ht).2;omega))) ?_;conv=>whnf
  refine br (fun JY=>?_) (fun JY=>?_)<;>rw[JY]<;>conv=>whnf
  ·subst hQ;rw[yC,if_neg (by rw[JY];simp)];rfl
  ·refine au (KP (q:=E0 n) k k' l a (ud (E0 n) l a) (by omega) h2 (by simp[ud,h2]) rfl (fun t ht=>T2 n t (by have:=(pP h1 ht).2;omega)) (fun j _ _ _=>by simp[ud])) ?_;conv=>whnf
   refine au (KM _ _ (by simp[ud];omega)) ?_;conv=>whnf
   subst hQ;rw[yC,if_pos ⟨h0,by omega,by omega,JY⟩];rfl
theorem UO{α:Type}{l:List α}{p:α→Bool}{j:Nat}(hj:j<l.length)(h:p l[j]=true):l.any p=true:=List.any_eq_true.2 ⟨l[j],List.getElem_mem hj,h⟩
theorem Dn{α:Type}{l:List α}{p:α→Bool}{j:Nat}(hj:j<l.length)(hi:(l.take j).any p=false)(h:p l[j]=false):(l.take (j+1)).any p=false:=by
 rw[eY hj,List.any_append,hi];simp[h]
end Ir
end Go.Proofs.Ytepdklcpagielaa
set_option maxRecDepth 100000
set_option linter.unusedSimpArgs false
set_option linter.unusedVariables false
namespace Go.Proofs.Ytepdklcpagielaa
open Go Ads
namespace Ir
theorem El{a n:Nat}(ha:1≤a)(ha2:a≤1048576)(hn:1≤n)(hn2:n≤1048576):iE ((a:Int),0) n=(((Nat.lcm a n:Nat):Int),0):=by
 have ta:cN (a:Int)=true:=(cL _).2 (by omega);have tn:cN (n:Int)=true:=(cL _).2 (by omega);have hL:Nat.lcm a n=a*(n/Nat.gcd a n):=by
  rw[Nat.lcm,Nat.mul_div_assoc _ (Nat.gcd_dvd_right a n)]
 have g2:rD a n=(((Nat.gcd a n:Nat):Int),0):=by simp[rD,ta,tn]
 have hq:(n:Int).tdiv (Nat.gcd a n:Nat)=((n/Nat.gcd a n:Nat):Int):=by rw[Int.ofNat_tdiv]
 have hle:n/Nat.gcd a n≤1048576:=by have:=Nat.div_le_self n (Nat.gcd a n);omega
 have tq:cN ((n/Nat.gcd a n:Nat):Int)=true:=(cL _).2 (by generalize n/Nat.gcd a n=q at*;omega);have hmul:(a:Int)*((n/Nat.gcd a n:Nat):Int)=((Nat.lcm a n:Nat):Int):=by rw[hL];simp
 have hb:Nat.lcm a n≤1048576*1048576:=by rw[hL];exact Nat.mul_le_mul ha2 hle
 simp only[iE,if_true,g2,hq,AH,ta,tq,Bool.and_self,hmul];rw[if_neg (by omega)]
theorem Py{a n:Nat}(ha:1≤a)(ha2:a≤4096)(hn:1≤n)(hn2:n≤64):AE 4096 [(a:Int),(n:Int)]=(if Nat.lcm a n≤4096 then(((Nat.lcm a n:Nat):Int),(0:Int)) else(0,10)):=by
 have ta:cN (a:Int)=true:=(cL _).2 (by omega);have tn:cN (n:Int)=true:=(cL _).2 (by omega);have f:[(a:Int),(n:Int)].foldl iE (1,0)=(((Nat.lcm a n:Nat):Int),0):=by
  have h1:iE (1,0) (a:Int)=((a:Int),0):=by
   have:=El (a:=1) (n:=a) (by omega) (by omega) ha (by omega)
   rwa [Nat.lcm_one_left] at this
  simp only[List.foldl_cons,List.foldl_nil,h1];exact El ha (by omega) hn (by omega)
 have hc:(cN 4096&&([(a:Int),(n:Int)].all cN&&![(a:Int),(n:Int)].contains 0))=true:=by
  have e1:cN 4096=true:=rfl;simp[e1,ta,tn];omega
 have hb:Nat.lcm a n≤1048576:=Nat.le_trans (Nat.le_of_dvd (Nat.mul_pos ha hn) (Nat.lcm_dvd_mul a n)) (Nat.le_trans (Nat.mul_le_mul ha2 hn2) (by decide));simp only[AE,f,hc,if_true];by_cases h:Nat.lcm a n≤4096
 ·rw[if_neg (by rintro⟨_,x⟩;omega),zZ,if_pos rfl,if_neg (by omega),if_pos h]
 ·rw[if_pos ⟨trivial,by omega⟩,zZ,if_neg (by decide),if_neg h]
def Tv(l:List Tk):List Nat:=l.map (·.p.toNat)
def mE(l:List Tk)(n:Nat):Nat:=(Tv l).foldl Nat.lcm n
def pz(l:List Tk)(n:Int):Int×Int:=if dX l=true∧1≤n∧n≤64 then(if mE l n.toNat≤4096 then((mE l n.toNat:Nat),0) else(0,5)) else(0,2)
theorem LM{l:List Tk}{j:Nat}(hj:j<l.length)(n:Nat):mE (l.take (j+1)) n=Nat.lcm (mE (l.take j) n) l[j].p.toNat:=by
 simp only[mE,Tv];rw[eY hj];simp only[List.map_append,List.foldl_append];rfl
theorem Ee(t:Tk)(l:List Tk)(n:Nat):mE (t::l) n=mE l (Nat.lcm n t.p.toNat):=rfl
theorem HA(l:List Tk):∀(n m:Nat),mE l n∣m↔n∣m∧∀t,t∈l→t.p.toNat∣m:=by
 induction l with
 |nil=>intro n m;simp[mE,Tv]
 |cons t l ih=>
  intro n m;rw[Ee,ih,Nat.lcm_dvd_iff];constructor
  ·rintro⟨⟨x,y⟩,z⟩;exact⟨x,fun u hu=>by rcases List.mem_cons.1 hu with h|h;exact h▸y;exact z u h⟩
  ·rintro⟨x,y⟩;exact⟨⟨x,y t List.mem_cons_self⟩,fun u hu=>y u (List.mem_cons_of_mem _ hu)⟩
theorem CA{l:List Tk}(h:∀t,t∈l→1≤t.p):∀{n:Nat},1≤n→1≤mE l n:=by
 induction l with
 |nil=>intro n hn;exact hn
 |cons t l ih=>
  intro n hn;rw[Ee];exact ih (fun u hu=>h u (List.mem_cons_of_mem _ hu)) (Nat.lcm_pos hn (by have:=h t List.mem_cons_self;omega))
theorem LL{l:List Tk}(h:∀t,t∈l→1≤t.p){n:Nat}(hn:1≤n)(j:Nat):mE (l.take j) n≤mE l n:=by
 refine Nat.le_of_dvd (CA h hn) ?_;rw[HA];have:=(HA l n (mE l n)).1 (Nat.dvd_refl _);exact⟨this.1,fun t ht=>this.2 t (List.mem_of_mem_take ht)⟩
theorem KI(k:Nat)(l:List Tk)(n:Int)(hl:l.length<2^62):PC fs ms 107 [.fz k (dI l),.int .i64 n] (qO (pz l n)):=by
 refine aX (by simp[bL,AV.cl,aS,cq]) rfl ?_;refine aC (af:=NL) false rfl (Nat.le_of_ble_eq_true rfl) ?_;generalize hQ:(fun(v:AV) (_:Heap)=>v=qO (pz l n))=Q;conv=>whnf
 refine au (QG k l hl) ?_;conv=>whnf
 iterate 4 (all_goals (first|(refine br (fun hc=>?_) (fun hc=>?_)<;>(try rw[hc])<;>(conv=>whnf))|skip))
 ·subst hQ;rw[pz,if_neg (by simp at hc;simp[hc])];rfl
 ·subst hQ;simp at hc;rw[pz,if_neg (by omega)];rfl
 ·subst hQ;simp at hc;rw[pz,if_neg (by omega)];rfl
 rename_i c0 c1;have h1:dX l=true:=by simpa using c0
 simp at hc c1;obtain⟨N,rfl⟩:=Int.eq_ofNat_of_zero_le (show 0≤n by omega);have hps:∀t,t∈l→1≤t.p:=fun t ht=>(pP h1 ht).2;have h64:∀t,t∈l→t.p≤64:=fun t ht=>by
  have:=(pP h1 ht).1;simp only[fc,decide_eq_true_eq] at this;omega
 refine ei 6 [(6,.int .i64 ((mE (l.take 0) N:Nat):Int)),(23,.fz k (dI l)),(24,.int .i64 (dI l).length),(25,.int .i64 ((0:Nat):Int))] (by repeat' (first|exact trivial|refine bI rfl (by omega) ?_|refine bg rfl (by omega) ?_|refine aR rfl (by omega) ?_|refine aJ rfl (by first|rfl|simp[bL,AV.cl,aS,cq]) ?_|refine aJ (ay (by omega)) rfl ?_)) ?_;refine fe 6 l.length (fun j=>mE (l.take j) N≤4096) (fun j=>[(6,.int .i64 ((mE (l.take j) N:Nat):Int)),(23,.fz k (dI l)),(24,.int .i64 (dI l).length),(25,.int .i64 (j:Nat))]) ?_ ?_ (by show N≤4096;omega)
 ·intro j hj hi;have hm:=List.getElem_mem hj;have p1:=hps _ hm;have p2:=h64 _ hm;obtain⟨p,hp⟩:=Int.eq_ofNat_of_zero_le (show 0≤l[j].p by omega);have hN:=LM hj N;have hpos:1≤mE (l.take j) N:=CA (fun t ht=>hps t (List.mem_of_mem_take ht)) (by omega);rw[hp,show((p:Int)).toNat=p from rfl] at hN;conv=>whnf
  refine br (fun hc=>?_) (fun hc=>?_)<;>(try rw[hc])<;>(conv=>whnf)
  ·refine⟨_,iP hj,?_⟩;conv=>whnf
   refine ji (WJ 4096 2 [((mE (l.take j) N:Nat):Int),l[j].p] (by simp)) rfl (.cons (.clean rfl) (.cons (.row (s:=1) trivial rfl rfl rfl rfl (Nat.le_refl _) (by omega) (fun _=>rfl) (fun _=>rfl) rfl) .nil)) ?_;rw[hp,Py hpos hi (by omega) (by omega),←hN];by_cases hle:mE (l.take (j+1)) N≤4096
   ·rw[if_pos hle];conv=>whnf
    exact⟨hle,(by repeat' (first|exact trivial|refine bI rfl (by omega) ?_|refine bg rfl (by omega) ?_|refine aR rfl (by omega) ?_|refine aJ rfl (by first|rfl|simp[bL,AV.cl,aS,cq]) ?_|refine aJ (ay (by omega)) rfl ?_))⟩
   ·rw[if_neg hle];conv=>whnf
    subst hQ;have:=LL hps (n:=N) (by omega) (j+1);rw[pz,if_pos ⟨h1,by omega,by omega⟩,show((N:Int)).toNat=N from rfl,if_neg (by omega)];rfl
  ·exfalso;have:=of_decide_eq_false hc;simp only[bM] at this;omega
 ·intro hi;conv=>whnf
  refine br (fun hc=>?_) (fun hc=>?_)<;>(try rw[hc])<;>(conv=>whnf)
  ·exfalso;have:=of_decide_eq_true hc;simp only[bM] at this;omega
  ·subst hQ;rw[List.take_length] at*;rw[pz,if_pos ⟨h1,by omega,by omega⟩,show((N:Int)).toNat=N from rfl,if_pos hi];rfl
end Ir
end Go.Proofs.Ytepdklcpagielaa
set_option maxRecDepth 100000
set_option linter.unusedSimpArgs false
set_option linter.unusedVariables false
namespace Go.Proofs.Ytepdklcpagielaa
open Go Ads
namespace Ir
theorem BY:∀(l:List Int) (s:Int),(∀x,x∈l→0≤x∧x≤4503599627370496)→0≤s→s+l.length*4503599627370496≤4611686018427387904→l.foldl (fun s x=>IntKind.i64.wrap (s+x)) s=s+l.sum
 |[],s,_,_,_=>by simp
 |x::l,s,h,h0,h1=>by
  have hx:=h x List.mem_cons_self;simp only[List.length_cons] at h1;have e:IntKind.i64.wrap (s+x)=s+x:=IntWalk.i64_in _ (by omega);rw[List.foldl_cons,e,BY l (s+x) (fun y hy=>h y (List.mem_cons_of_mem _ hy)) (by omega) (by omega),List.sum_cons];omega
theorem GN{l:List Int}(h:∀x,x∈l→0≤x∧x≤4503599627370496)(hl:l.length≤1024):mK l=l.sum:=by
 rw[mK,BY l 0 h (by omega) (by omega)];omega
def Fi(t:Tk):Prop:=1≤t.w∧t.w≤t.d∧t.d≤t.p∧t.p≤64
def jr(q:Tk→Int)(l:List Tk)(a:List Int):List Int:=List.zipWith (fun t m=>q t*(t.w+m)) l a
theorem vQ{q:Tk→Int}:∀(l:List Tk) (a:List Int),(∀t,t∈l→Fi t∧0≤q t∧q t≤1073741824)→(∀m,m∈a→0≤m∧m≤32768)→ud q l a=jr q l a∧∀x,x∈jr q l a→0≤x∧x≤4503599627370496
 |[],a,_,_=>by simp[ud,jr]
 |t::l,[],_,_=>by simp[ud,jr]
 |t::l,m::a,h1,h2=>by
  obtain⟨o,q1,q2⟩:=h1 t List.mem_cons_self;obtain⟨m1,m2⟩:=h2 m List.mem_cons_self;obtain⟨i1,i2⟩:=vQ l a (fun t ht=>h1 t (List.mem_cons_of_mem _ ht)) (fun m hm=>h2 m (List.mem_cons_of_mem _ hm));obtain⟨o1,o2,o3,o4⟩:=o;have e1:IntKind.i64.wrap (t.w+m)=t.w+m:=IntWalk.i64_in _ (by omega);have b1:0≤q t*(t.w+m):=Int.mul_nonneg q1 (by omega);have b2:q t*(t.w+m)≤1073741824*33000:=Int.mul_le_mul q2 (by omega) (by omega) (by omega);have e2:IntKind.i64.wrap (q t*(t.w+m))=q t*(t.w+m):=IntWalk.i64_in _ (by omega);constructor
  ·show IntKind.i64.wrap (q t*IntKind.i64.wrap (t.w+m))::ud q l a=q t*(t.w+m)::jr q l a;rw[e1,e2,i1]
  ·intro x hx;rcases List.mem_cons.1 hx with h|h
   ·have h':x=q t*(t.w+m):=h;rw[h'];omega
   ·exact i2 x h
theorem BZ:∀(l:List Int),(∀x,x∈l→0≤x∧x≤4503599627370496)→0≤l.sum∧l.sum≤l.length*4503599627370496
 |[],_=>by simp
 |x::l,h=>by
  have hx:=h x List.mem_cons_self;have:=BZ l (fun y hy=>h y (List.mem_cons_of_mem _ hy));simp only[List.sum_cons,List.length_cons];omega
theorem acG{q:Tk→Int}{l:List Tk}{a:List Int}(h1:∀t,t∈l→Fi t∧0≤q t∧q t≤1073741824)(h2:∀m,m∈a→0≤m∧m≤32768)(hl:l.length≤1024):0≤(jr q l a).sum∧(jr q l a).sum≤4611686018427387904:=by
 have:=BZ _ (vQ l a h1 h2).2;have h3:(jr q l a).length≤1024:=by simp[jr];omega
 omega
theorem HX{q:Tk→Int}{l:List Tk}{a:List Int}(h1:∀t,t∈l→Fi t∧0≤q t∧q t≤1073741824)(h2:∀m,m∈a→0≤m∧m≤32768)(hl:l.length≤1024):mK (ud q l a)=(jr q l a).sum:=by
 obtain⟨i1,i2⟩:=vQ l a h1 h2;rw[i1,GN i2 (by simp[jr];omega)]
def pE(n:Int)(t:Tk):Int:=if n<t.d then 0 else 1+(n-t.d)/t.p
theorem y8{n:Int}{t:Tk}(h:Fi t)(h0:0≤n)(h1:n≤1048576):tT n t=pE n t∧0≤pE n t∧pE n t≤1048577:=by
 obtain⟨o1,o2,o3,o4⟩:=h;unfold tT pE;split
 ·simp
 ·rename_i hn;have e1:IntKind.i64.wrap (n-t.d)=n-t.d:=IntWalk.i64_in _ (by omega);have e2:(n-t.d).tdiv t.p=(n-t.d)/t.p:=Int.tdiv_eq_ediv_of_nonneg (by omega);have b1:0≤(n-t.d)/t.p:=Int.ediv_nonneg (by omega) (by omega);have b2:(n-t.d)/t.p≤n-t.d:=Int.ediv_le_self _ (by omega);rw[e1,e2];generalize(n-t.d)/t.p=z at*;rw[IntWalk.i64_in z (by omega),IntWalk.i64_in _ (by omega)];omega
theorem B5{n:Int}{t:Tk}(h:Fi t)(h0:0≤n)(h1:n≤1048576):E0 n t=n/t.p∧0≤n/t.p∧n/t.p≤1048576:=by
 obtain⟨o1,o2,o3,o4⟩:=h;have e2:n.tdiv t.p=n/t.p:=Int.tdiv_eq_ediv_of_nonneg h0;have b1:0≤n/t.p:=Int.ediv_nonneg (by omega) (by omega);have b2:n/t.p≤n:=Int.ediv_le_self _ h0;rw[E0,e2];generalize n/t.p=z at*;rw[IntWalk.i64_in z (by omega)];omega
theorem S7{n h:Int}{t:Tk}(o:Fi t)(hn:64≤n)(hd:t.p∣h)(hh:0≤h):pE (n+h) t=pE n t+h/t.p:=by
 obtain⟨o1,o2,o3,o4⟩:=o;obtain⟨c,rfl⟩:=hd;rw[pE,pE,if_neg (by omega),if_neg (by omega),Int.mul_ediv_cancel_left c (by omega),show n+t.p*c-t.d=n-t.d+t.p*c by omega,Int.add_mul_ediv_left _ _ (by omega)];omega
theorem Uz{n m:Int}{t:Tk}(o:Fi t)(h0:0≤n)(h:n≤m):pE n t≤pE m t:=by
 obtain⟨o1,o2,o3,o4⟩:=o;unfold pE;split
 ·split
  ·omega
  ·have:=Int.ediv_nonneg (a:=m-t.d) (b:=t.p) (by omega) (by omega);omega
 ·rw[if_neg (by omega)];have:=Int.ediv_le_ediv (a:=n-t.d) (b:=m-t.d) (c:=t.p) (by omega) (by omega);omega
theorem yu{q r:Tk→Int}:∀(l:List Tk) (a:List Int),(∀t,t∈l→q t=r t)→jr q l a=jr r l a
 |[],a,_=>by simp[jr]
 |t::l,[],_=>by simp[jr]
 |t::l,m::a,h=>by
  show q t*(t.w+m)::jr q l a=r t*(t.w+m)::jr r l a;rw[h t List.mem_cons_self,yu l a fun u hu=>h u (List.mem_cons_of_mem _ hu)]
theorem OA{q r s:Tk→Int}:∀(l:List Tk) (a:List Int),(∀t,t∈l→q t=r t+s t)→(jr q l a).sum=(jr r l a).sum+(jr s l a).sum
 |[],a,_=>by simp[jr]
 |t::l,[],_=>by simp[jr]
 |t::l,m::a,h=>by
  show(q t*(t.w+m)::jr q l a).sum=(r t*(t.w+m)::jr r l a).sum+(s t*(t.w+m)::jr s l a).sum;have:=OA (q:=q) (r:=r) (s:=s) l a fun u hu=>h u (List.mem_cons_of_mem _ hu);rw[List.sum_cons,List.sum_cons,List.sum_cons,h t List.mem_cons_self,this,Int.add_mul];omega
theorem Kp{q r:Tk→Int}:∀(l:List Tk) (a:List Int),(∀t,t∈l→Fi t∧q t≤r t)→(∀m,m∈a→0≤m)→(jr q l a).sum≤(jr r l a).sum
 |[],a,_,_=>by simp[jr]
 |t::l,[],_,_=>by simp[jr]
 |t::l,m::a,h,h2=>by
  show(q t*(t.w+m)::jr q l a).sum≤(r t*(t.w+m)::jr r l a).sum;have:=Kp (q:=q) (r:=r) l a (fun u hu=>h u (List.mem_cons_of_mem _ hu)) (fun m hm=>h2 m (List.mem_cons_of_mem _ hm));obtain⟨⟨o1,o2,o3,o4⟩,hq⟩:=h t List.mem_cons_self;have hm:=h2 m List.mem_cons_self;have:=Int.mul_le_mul_of_nonneg_right hq (show 0≤t.w+m by omega);rw[List.sum_cons,List.sum_cons];omega
theorem zY{l:List Tk}(h:∀t,t∈l→Fi t)(hl:l.length≤4):dX l=true:=by
 have:l.all fc=true:=by
  rw[List.all_eq_true];intro t ht;have:=h t ht;simp only[Fi] at this;simp only[fc,decide_eq_true_eq];omega
 simp[dX,this,hl]
theorem xd{l:List Tk}{a:List Int}(h:∀t,t∈l→Fi t)(hl:l.length≤4)(ha:∀m,m∈a→0≤m∧m≤32768)(hla:a.length=l.length):eM l a=0:=by
 have:a.any m5=false:=by
  rw[List.any_eq_false];intro m hm;have:=ha m hm;simp only[m5,decide_eq_true_eq];simp;omega
 rw[eM,if_pos ⟨this,zY h hl,hla⟩]
theorem aaG{l:List Tk}{a:List Int}{n:Int}(h:∀t,t∈l→Fi t)(hl:l.length≤4)(ha:∀m,m∈a→0≤m∧m≤32768)(hla:a.length=l.length)(h0:0≤n)(h1:n≤1048576):
  OG l a n=((jr (pE n) l a).sum,0):=by
 rw[OG,if_pos ⟨xd h hl ha hla,h0,h1⟩];have hq:∀t,t∈l→tT n t=pE n t:=fun t ht=>(y8 (h t ht) h0 h1).1;rw[HX (fun t ht=>⟨h t ht,by have:=y8 (h t ht) h0 h1;rw[this.1];omega⟩) ha (by omega),yu l a hq]
theorem ab8{l:List Tk}{n:Int}(h:∀t,t∈l→Fi t)(hl:l.length≤4)(h1:1≤n)(h2:n≤64):(pz l n=(((mE l n.toNat:Nat):Int),0)∧mE l n.toNat≤4096∧1≤mE l n.toNat)∨pz l n=(0,5):=by
 rw[pz,if_pos ⟨zY h hl,h1,h2⟩];by_cases h4:mE l n.toNat≤4096
 ·rw[if_pos h4];exact .inl ⟨rfl,h4,CA (fun t ht=>by have:=h t ht;simp only[Fi] at this;omega) (by omega)⟩
 ·rw[if_neg h4];exact .inr rfl
theorem YK{l:List Tk}{a:List Int}{n:Int}(h:∀t,t∈l→Fi t)(hl:l.length≤4)(ha:∀m,m∈a→0≤m∧m≤32768)(hla:a.length=l.length)(h0:1≤n)(h1:n≤1048576)(hd:∀t,t∈l→t.p∣n):
  yC l a n=((jr (fun t=>n/t.p) l a).sum,0):=by
 have abL:l.any (Jg n)=false:=by
  rw[List.any_eq_false];intro t ht;have:n.tmod t.p=0:=Int.tmod_eq_zero_of_dvd (hd t ht);simp[Jg,this]
 rw[yC,if_pos ⟨xd h hl ha hla,h0,h1,abL⟩];have hq:∀t,t∈l→E0 n t=n/t.p:=fun t ht=>(B5 (h t ht) (by omega) h1).1;rw[HX (fun t ht=>⟨h t ht,by have:=B5 (h t ht) (by omega) h1;rw[this.1];omega⟩) ha (by omega),yu l a hq]
end Ir
end Go.Proofs.Ytepdklcpagielaa
