/-
  Demand: the tasks. Demand: rows of tasks. Demand: ContainsFunc over numbers and tasks. Demand: what is refused. Demand: what the document's Check refuses. Demand: jobs of a task; each; sum. Demand: each. Demand: Of. Demand: the document's Of. Demand: Use of both. Demand: Hyper of the program. Demand: what is asked for, without ends of the numbers.
-/
import Derived.Test.YtecdcefacdodgaaIrLink
import Derived.Test.YtecdcefacdodgaaVsLoop
import Derived.Test.YtecdcefacdodgaaZA
import Derived.Test.YtecdcefacdodgaaVTick
set_option maxRecDepth 100000
set_option linter.unusedSimpArgs false
set_option linter.unusedVariables false
namespace Go.Proofs.Ytecdcefacdodgaa
open Go Ads
namespace Ir
structure Tk where
 p:Int
 d:Int
 w:Int
 a:Int
 b:Int
 c:Int
 e:Int
 f:Int
def tk(t:Tk):AV:=.agg [.int .i64 t.p,.int .i64 t.d,.int .i64 t.w,.int .i64 t.a,.int .i64 t.b,.int .i64 t.c,.int .i64 t.e,.int .i64 t.f]
def fQ(l:List Tk):List AV:=l.map tk
def dw(t:Tk):Bool:=decide (1≤t.w∧t.w≤t.d∧t.d≤t.p∧t.p≤64)
theorem Sz(t:Tk):PC fs ms 137 [tk t] (.bool (dw t)):=by
 refine bq rfl rfl ?_;refine aA (af:=KZ) false rfl (Nat.le_of_ble_eq_true rfl) ?_;generalize hQ:(fun(v:AV) (_:Heap)=>v=.bool (dw t))=Q;conv=>whnf
 iterate 8 (all_goals (first|(refine br (fun hc=>?_) (fun hc=>?_)<;>(try rw[hc])<;>(conv=>whnf))|skip))
 all_goals (subst hQ;simp only[dw];refine congrArg AV.bool ?_;rw[Bool.eq_iff_iff];simp at*;omega)
end Ir
end Go.Proofs.Ytecdcefacdodgaa
set_option maxRecDepth 100000
set_option linter.unusedSimpArgs false
set_option linter.unusedVariables false
namespace Go.Proofs.Ytecdcefacdodgaa
open Go Ads
namespace Ir
theorem bJ(l:List Tk):bn (fQ l)=true:=pW (enc:=tk) (fun _=>rfl) l
theorem bM(l:List Tk):(fQ l).length=l.length:=List.length_map ..
theorem mK{l:List Tk}{j k:Nat}(hj:j<l.length):pV (.aH 8) [.fz k (fQ l),.int .i64 (j:Nat)]=some (.fp (tk l[j]).cells 0):=z9 (enc:=tk) hj rfl
def cL(l:List Tk):Bool:=l.all dw&&decide (l.length≤4)
end Ir
end Go.Proofs.Ytecdcefacdodgaa
set_option maxRecDepth 100000
set_option linter.unusedSimpArgs false
set_option linter.unusedVariables false
namespace Go.Proofs.Ytecdcefacdodgaa
open Go Ads
namespace Ir
theorem Po{F:Nat}{aF:List AV}{p:Int→Bool}(k:Nat)(l:List Int)(hl:l.length<2^62)(hcap:bn aF=true)(hp:∀m,PC fs ms F (.int .i64 m::aF) (.bool (p m))):
  ∃n:Int,PC fs ms 158 [.fz k (ints l),.func (.func F) [] aF] (.int .i64 n)∧decide (n≥0)=l.any p:=by
 by_cases ha:l.any p=true
 ·obtain⟨j,hj,h1,h2⟩:=p7 (l:=l) (p:=fun m=>p m=true) (by simpa using ha);refine⟨(j:Nat),?_,by rw[ha];simp⟩;refine bq (by simp[bn,AV.cl,aE,hcap]) rfl ?_;refine aA (af:=G7) false rfl (Nat.le_of_ble_eq_true rfl) ?_;generalize hQ:(fun(v:AV) (_:Heap)=>v=.int .i64 (j:Nat))=Q;conv=>whnf
  refine dy 5 [(0,.fz k (ints l)),(1,.func (.func F) [] aF),(7,.int .i64 (ints l).length),(8,.int .i64 ((0:Nat):Int))] (by repeat' (first|exact trivial|refine bt rfl (by omega) ?_|refine aV rfl (by omega) ?_|refine aJ rfl (by omega) ?_|refine aC rfl (by first|rfl|simp[bn,AV.cl,aE,hcap]) ?_|refine aC (au (by omega)) rfl ?_)) ?_;refine fH 5 j (fun _=>True) (fun i=>[(0,.fz k (ints l)),(1,.func (.func F) [] aF),(7,.int .i64 (ints l).length),(8,.int .i64 (i:Nat))]) ?_ ?_ trivial
  ·intro i hi _;conv=>whnf
   refine br (fun hc=>?_) (fun hc=>?_)<;>(try rw[hc])<;>(conv=>whnf)
   ·refine⟨_,gX (by omega),?_⟩;conv=>whnf
    refine ai (hp _) ?_;conv=>whnf
    refine br (fun hc=>?_) (fun hc=>?_)<;>(try rw[hc])<;>(conv=>whnf)
    ·exact absurd hc (h2 i (by omega) hi)
    ·refine⟨trivial,⟨_,rfl,.cl (by simp[AV.cl,aE])⟩,⟨_,rfl,.cl (by simp[AV.cl,bn,hcap])⟩,⟨_,rfl,.cl rfl⟩,⟨_,au (by omega),.cl rfl⟩,trivial⟩
   ·exfalso;have:=of_decide_eq_false hc;rw[aT] at this;omega
  ·intro _;conv=>whnf
   refine br (fun hc=>?_) (fun hc=>?_)<;>(try rw[hc])<;>(conv=>whnf)
   ·refine⟨_,gX hj,?_⟩;conv=>whnf
    refine ai (hp _) ?_;conv=>whnf
    refine br (fun hc=>?_) (fun hc=>?_)<;>(try rw[hc])<;>(conv=>whnf)
    ·subst hQ;rfl
    ·rw[h1] at hc;simp at hc
   ·exfalso;have:=of_decide_eq_false hc;rw[aT] at this;omega
 ·have hn:∀m,m∈l→p m=false:=by
   intro m hm;rw[Bool.eq_false_iff];intro h;exact ha (List.any_eq_true.2 ⟨m,hm,h⟩)
  refine⟨-1,?_,by rw[Bool.eq_false_iff.2 ha];decide⟩;refine bq (by simp[bn,AV.cl,aE,hcap]) rfl ?_;refine aA (af:=G7) false rfl (Nat.le_of_ble_eq_true rfl) ?_;generalize hQ:(fun(v:AV) (_:Heap)=>v=.int .i64 (-1))=Q;conv=>whnf
  refine dy 5 [(0,.fz k (ints l)),(1,.func (.func F) [] aF),(7,.int .i64 (ints l).length),(8,.int .i64 ((0:Nat):Int))] (by repeat' (first|exact trivial|refine bt rfl (by omega) ?_|refine aV rfl (by omega) ?_|refine aJ rfl (by omega) ?_|refine aC rfl (by first|rfl|simp[bn,AV.cl,aE,hcap]) ?_|refine aC (au (by omega)) rfl ?_)) ?_;refine fH 5 l.length (fun _=>True) (fun i=>[(0,.fz k (ints l)),(1,.func (.func F) [] aF),(7,.int .i64 (ints l).length),(8,.int .i64 (i:Nat))]) ?_ ?_ trivial
  ·intro i hi _;conv=>whnf
   refine br (fun hc=>?_) (fun hc=>?_)<;>(try rw[hc])<;>(conv=>whnf)
   ·refine⟨_,gX (by omega),?_⟩;conv=>whnf
    refine ai (hp _) ?_;conv=>whnf
    refine br (fun hc=>?_) (fun hc=>?_)<;>(try rw[hc])<;>(conv=>whnf)
    ·rw[hn _ (List.getElem_mem hi)] at hc;simp at hc
    ·refine⟨trivial,⟨_,rfl,.cl (by simp[AV.cl,aE])⟩,⟨_,rfl,.cl (by simp[AV.cl,bn,hcap])⟩,⟨_,rfl,.cl rfl⟩,⟨_,au (by omega),.cl rfl⟩,trivial⟩
   ·exfalso;have:=of_decide_eq_false hc;rw[aT] at this;omega
  ·intro _;conv=>whnf
   refine br (fun hc=>?_) (fun hc=>?_)<;>(try rw[hc])<;>(conv=>whnf)
   ·exfalso;have:=of_decide_eq_true hc;rw[aT] at this;omega
   ·subst hQ;rfl
theorem QX{F:Nat}{aF:List AV}{p:Int→Bool}(k:Nat)(l:List Int)(hl:l.length<2^62)(hcap:bn aF=true)(hp:∀m,PC fs ms F (.int .i64 m::aF) (.bool (p m))):
  PC fs ms 143 [.fz k (ints l),.func (.func F) [] aF] (.bool (l.any p)):=by
 obtain⟨n,c1,c2⟩:=Po k l hl hcap hp;refine bq (by simp[bn,AV.cl,aE,hcap]) rfl ?_;refine aA (af:=K5) false rfl (Nat.le_of_ble_eq_true rfl) ?_;generalize hQ:(fun(v:AV) (_:Heap)=>v=.bool (l.any p))=Q;conv=>whnf
 refine ai c1 ?_;conv=>whnf
 subst hQ;exact congrArg AV.bool c2
theorem Pq{F:Nat}{aF:List AV}{p:Tk→Bool}(k:Nat)(l:List Tk)(hl:l.length<2^62)(hcap:bn aF=true)(hp:∀m,m∈l→PC fs ms F (tk m::aF) (.bool (p m))):
  ∃n:Int,PC fs ms 145 [.fz k (fQ l),.func (.func F) [] aF] (.int .i64 n)∧decide (n≥0)=l.any p:=by
 by_cases ha:l.any p=true
 ·obtain⟨j,hj,h1,h2⟩:=p7 (l:=l) (p:=fun m=>p m=true) (by simpa using ha);refine⟨(j:Nat),?_,by rw[ha];simp⟩;refine bq (by simp[bn,AV.cl,bJ,hcap]) rfl ?_;refine aA (af:=G5) false rfl (Nat.le_of_ble_eq_true rfl) ?_;generalize hQ:(fun(v:AV) (_:Heap)=>v=.int .i64 (j:Nat))=Q;conv=>whnf
  refine dy 5 [(0,.fz k (fQ l)),(1,.func (.func F) [] aF),(7,.int .i64 (fQ l).length),(8,.int .i64 ((0:Nat):Int))] (by repeat' (first|exact trivial|refine bt rfl (by omega) ?_|refine aV rfl (by omega) ?_|refine aJ rfl (by omega) ?_|refine aC rfl (by first|rfl|simp[bn,AV.cl,aE,bJ,hcap]) ?_|refine aC (au (by omega)) rfl ?_)) ?_;refine fH 5 j (fun _=>True) (fun i=>[(0,.fz k (fQ l)),(1,.func (.func F) [] aF),(7,.int .i64 (fQ l).length),(8,.int .i64 (i:Nat))]) ?_ ?_ trivial
  ·intro i hi _;conv=>whnf
   refine br (fun hc=>?_) (fun hc=>?_)<;>(try rw[hc])<;>(conv=>whnf)
   ·refine⟨_,mK (by omega),?_⟩;conv=>whnf
    refine ai (hp _ (List.getElem_mem _)) ?_;conv=>whnf
    refine br (fun hc=>?_) (fun hc=>?_)<;>(try rw[hc])<;>(conv=>whnf)
    ·exact absurd hc (h2 i (by omega) hi)
    ·refine⟨trivial,⟨_,rfl,.cl (by simp[AV.cl,bJ])⟩,⟨_,rfl,.cl (by simp[AV.cl,bn,hcap])⟩,⟨_,rfl,.cl rfl⟩,⟨_,au (by omega),.cl rfl⟩,trivial⟩
   ·exfalso;have:=of_decide_eq_false hc;rw[bM] at this;omega
  ·intro _;conv=>whnf
   refine br (fun hc=>?_) (fun hc=>?_)<;>(try rw[hc])<;>(conv=>whnf)
   ·refine⟨_,mK hj,?_⟩;conv=>whnf
    refine ai (hp _ (List.getElem_mem _)) ?_;conv=>whnf
    refine br (fun hc=>?_) (fun hc=>?_)<;>(try rw[hc])<;>(conv=>whnf)
    ·subst hQ;rfl
    ·rw[h1] at hc;simp at hc
   ·exfalso;have:=of_decide_eq_false hc;rw[bM] at this;omega
 ·have hn:∀m,m∈l→p m=false:=by
   intro m hm;rw[Bool.eq_false_iff];intro h;exact ha (List.any_eq_true.2 ⟨m,hm,h⟩)
  refine⟨-1,?_,by rw[Bool.eq_false_iff.2 ha];decide⟩;refine bq (by simp[bn,AV.cl,bJ,hcap]) rfl ?_;refine aA (af:=G5) false rfl (Nat.le_of_ble_eq_true rfl) ?_;generalize hQ:(fun(v:AV) (_:Heap)=>v=.int .i64 (-1))=Q;conv=>whnf
  refine dy 5 [(0,.fz k (fQ l)),(1,.func (.func F) [] aF),(7,.int .i64 (fQ l).length),(8,.int .i64 ((0:Nat):Int))] (by repeat' (first|exact trivial|refine bt rfl (by omega) ?_|refine aV rfl (by omega) ?_|refine aJ rfl (by omega) ?_|refine aC rfl (by first|rfl|simp[bn,AV.cl,aE,bJ,hcap]) ?_|refine aC (au (by omega)) rfl ?_)) ?_;refine fH 5 l.length (fun _=>True) (fun i=>[(0,.fz k (fQ l)),(1,.func (.func F) [] aF),(7,.int .i64 (fQ l).length),(8,.int .i64 (i:Nat))]) ?_ ?_ trivial
  ·intro i hi _;conv=>whnf
   refine br (fun hc=>?_) (fun hc=>?_)<;>(try rw[hc])<;>(conv=>whnf)
   ·refine⟨_,mK (by omega),?_⟩;conv=>whnf
    refine ai (hp _ (List.getElem_mem _)) ?_;conv=>whnf
    refine br (fun hc=>?_) (fun hc=>?_)<;>(try rw[hc])<;>(conv=>whnf)
    ·rw[hn _ (List.getElem_mem hi)] at hc;simp at hc
    ·refine⟨trivial,⟨_,rfl,.cl (by simp[AV.cl,bJ])⟩,⟨_,rfl,.cl (by simp[AV.cl,bn,hcap])⟩,⟨_,rfl,.cl rfl⟩,⟨_,au (by omega),.cl rfl⟩,trivial⟩
   ·exfalso;have:=of_decide_eq_false hc;rw[bM] at this;omega
  ·intro _;conv=>whnf
   refine br (fun hc=>?_) (fun hc=>?_)<;>(try rw[hc])<;>(conv=>whnf)
   ·exfalso;have:=of_decide_eq_true hc;rw[bM] at this;omega
   ·subst hQ;rfl
theorem A7{F:Nat}{aF:List AV}{p:Tk→Bool}(k:Nat)(l:List Tk)(hl:l.length<2^62)(hcap:bn aF=true)(hp:∀m,m∈l→PC fs ms F (tk m::aF) (.bool (p m))):
  PC fs ms 111 [.fz k (fQ l),.func (.func F) [] aF] (.bool (l.any p)):=by
 obtain⟨n,c1,c2⟩:=Pq k l hl hcap hp;refine bq (by simp[bn,AV.cl,bJ,hcap]) rfl ?_;refine aA (af:=KM) false rfl (Nat.le_of_ble_eq_true rfl) ?_;generalize hQ:(fun(v:AV) (_:Heap)=>v=.bool (l.any p))=Q;conv=>whnf
 refine ai c1 ?_;conv=>whnf
 subst hQ;exact congrArg AV.bool c2
end Ir
end Go.Proofs.Ytecdcefacdodgaa
set_option maxRecDepth 100000
set_option linter.unusedSimpArgs false
set_option linter.unusedVariables false
namespace Go.Proofs.Ytecdcefacdodgaa
open Go Ads
namespace Ir
theorem Hi(t:Tk):PC fs ms 136 [tk t] (.bool (!dw t)):=by
 refine bq rfl rfl ?_;refine aA (af:=KY) false rfl (Nat.le_of_ble_eq_true rfl) ?_;generalize hQ:(fun(v:AV) (_:Heap)=>v=.bool (!dw t))=Q;conv=>whnf
 refine ai (Sz _) ?_;conv=>whnf
 subst hQ;rfl
theorem Lt(l:List Tk):(l.any fun t=>!dw t)=!l.all dw:=by
 induction l with
 |nil=>rfl
 |cons t l ih=>simp only[List.any_cons,List.all_cons,ih,Bool.not_and]
theorem M3(k:Nat)(l:List Tk)(hl:l.length<2^62):PC fs ms 108 [.fz k (fQ l)] (.bool (cL l)):=by
 refine bq (by simp[bn,AV.cl,bJ]) rfl ?_;refine aA (af:=KJ) false rfl (Nat.le_of_ble_eq_true rfl) ?_;generalize hQ:(fun(v:AV) (_:Heap)=>v=.bool (cL l))=Q;conv=>whnf
 refine br (fun hc=>?_) (fun hc=>?_)<;>(try rw[hc])<;>(conv=>whnf)
 ·refine ai (A7 k l hl rfl (fun m _=>Hi m)) ?_;conv=>whnf
  subst hQ;refine congrArg AV.bool ?_;have:=of_decide_eq_true hc;rw[bM] at this;rw[Lt,Bool.not_not,cL,decide_eq_true (by omega),Bool.and_true]
 ·subst hQ;refine congrArg AV.bool ?_;have:=of_decide_eq_false hc;rw[bM] at this;rw[cL,decide_eq_false (by omega),Bool.and_false]
def kJ(n:Int):Bool:=decide (n<0)||decide (n>32768)
theorem CY(n:Int):PC fs ms 144 [.int .i64 n] (.bool (kJ n)):=by
 refine bq rfl rfl ?_;refine aA (af:=K6) false rfl (Nat.le_of_ble_eq_true rfl) ?_;generalize hQ:(fun(v:AV) (_:Heap)=>v=.bool (kJ n))=Q;conv=>whnf
 refine br (fun hc=>?_) (fun hc=>?_)<;>(try rw[hc])<;>(conv=>whnf)
 ·subst hQ;simp only[kJ,hc,Bool.true_or]
 ·subst hQ;simp only[kJ,hc,Bool.false_or]
def dz(l:List Tk)(a:List Int):Int:=if a.any kJ=false∧cL l=true∧a.length=l.length then 0 else 2
theorem zD(k k':Nat)(l:List Tk)(a:List Int)(hl:l.length<2^62)(ha:a.length<2^62):PC fs ms 110 [.fz k (fQ l),.fz k' (ints a)] (.int .i64 (dz l a)):=by
 refine bq (by simp[bn,AV.cl,bJ,aE]) rfl ?_;refine aA (af:=KL) false rfl (Nat.le_of_ble_eq_true rfl) ?_;generalize hQ:(fun(v:AV) (_:Heap)=>v=.int .i64 (dz l a))=Q;conv=>whnf
 refine ai (QX k' a ha rfl CY) ?_;conv=>whnf
 refine br (fun hc=>?_) (fun hc=>?_)<;>(try rw[hc])<;>(conv=>whnf)
 ·subst hQ;simp[dz,hc]
 ·refine ai (M3 k l hl) ?_;have h1:=hc;conv=>whnf
  refine br (fun hc=>?_) (fun hc=>?_)<;>(try rw[hc])<;>(conv=>whnf)
  ·subst hQ;simp at hc;simp[dz,hc]
  ·have h2:=hc;refine br (fun hc=>?_) (fun hc=>?_)<;>(try rw[hc])<;>(conv=>whnf)
   ·subst hQ;simp[aT,bM] at hc;rw[dz,if_neg (fun h=>by omega)]
   ·subst hQ;simp[aT,bM] at hc;simp at h2;rw[dz,if_pos ⟨h1,h2,by omega⟩]
end Ir
end Go.Proofs.Ytecdcefacdodgaa
set_option maxRecDepth 100000
set_option linter.unusedSimpArgs false
set_option linter.unusedVariables false
namespace Go.Proofs.Ytecdcefacdodgaa
open Go Ads
namespace Ir
end Ir
end Go.Proofs.Ytecdcefacdodgaa
set_option maxRecDepth 100000
set_option linter.unusedSimpArgs false
set_option linter.unusedVariables false
namespace Go.Proofs.Ytecdcefacdodgaa
open Go Ads
namespace Ir
def qL(n:Int)(t:Tk):Int:=if n<t.d then 0 else IntKind.i64.wrap (1+IntKind.i64.wrap ((IntKind.i64.wrap (n-t.d)).tdiv t.p))
theorem Pu(n:Int)(t:Tk)(hp:t.p≠0):PC fs ms 159 [tk t,.fp [.int .i64 n] 0] (.int .i64 (qL n t)):=by
 refine bq rfl rfl ?_;refine aA (af:=Ld) false rfl (Nat.le_of_ble_eq_true rfl) ?_;generalize hQ:(fun(v:AV) (_:Heap)=>v=.int .i64 (qL n t))=Q;conv=>whnf
 refine br (fun hc=>?_) (fun hc=>?_)<;>(try rw[hc])<;>(conv=>whnf)
 ·subst hQ;rw[qL,if_pos (of_decide_eq_true hc)]
 ·refine⟨_,jK _ _ hp,?_⟩;conv=>whnf
  subst hQ;rw[qL,if_neg (of_decide_eq_false hc)]
def jX(l:List Int):Int:=l.foldl (fun s x=>IntKind.i64.wrap (s+x)) 0
theorem HG(k:Nat)(l:List Int)(hl:l.length<2^62):PC fs ms 113 [.fz k (ints l)] (.int .i64 (jX l)):=by
 refine bq (by simp[bn,AV.cl,aE]) rfl ?_;refine aA (af:=KO) false rfl (Nat.le_of_ble_eq_true rfl) ?_;generalize hQ:(fun(v:AV) (_:Heap)=>v=.int .i64 (jX l))=Q;conv=>whnf
 refine dy 5 [(2,.int .i64 (jX (l.take 0))),(5,.fz k (ints l)),(6,.int .i64 (ints l).length),(7,.int .i64 ((0:Nat):Int))] (by repeat' (first|exact trivial|refine bt rfl (by omega) ?_|refine aV rfl (by omega) ?_|refine aJ rfl (by omega) ?_|refine aC rfl (by first|rfl|simp[bn,AV.cl,aE]) ?_|refine aC (au (by omega)) rfl ?_)) ?_;refine fH 5 l.length (fun _=>True) (fun j=>[(2,.int .i64 (jX (l.take j))),(5,.fz k (ints l)),(6,.int .i64 (ints l).length),(7,.int .i64 (j:Nat))]) ?_ ?_ trivial
 ·intro j hj _;conv=>whnf
  refine br (fun hc=>?_) (fun hc=>?_)<;>(try rw[hc])<;>(conv=>whnf)
  ·refine⟨_,gX hj,?_⟩;conv=>whnf
   refine⟨trivial,⟨_,congrArg (fun n=>some (AV.int .i64 n)) ?_,.cl rfl⟩,⟨_,rfl,.cl (by simp[AV.cl,aE])⟩,⟨_,rfl,.cl rfl⟩,⟨_,au (by omega),.cl rfl⟩,trivial⟩;rw[eG hj];simp only[jX,List.foldl_append];rfl
  ·exfalso;have:=of_decide_eq_false hc;rw[aT] at this;omega
 ·intro _;conv=>whnf
  refine br (fun hc=>?_) (fun hc=>?_)<;>(try rw[hc])<;>(conv=>whnf)
  ·exfalso;have:=of_decide_eq_true hc;rw[aT] at this;omega
  ·subst hQ;rw[List.take_length]
end Ir
end Go.Proofs.Ytecdcefacdodgaa
set_option maxRecDepth 100000
set_option linter.unusedSimpArgs false
set_option linter.unusedVariables false
namespace Go.Proofs.Ytecdcefacdodgaa
open Go Ads
namespace Ir
def Rb(ts:List Int)(j:Nat):Heap:=⟨1,.node .nil (some (.cells (ints (iB ts j)) true 0)) .nil⟩
theorem HK{F:Nat}{aF:List AV}{q:Tk→Int}(k k':Nat)(l:List Tk)(a ts:List Int)(hl:l.length≤1048576)(ha:a.length=l.length)(ht:ts.length=l.length)(hcap:bn aF=true)
  (hp:∀t,t∈l→PC fs ms F (tk t::aF) (.int .i64 (q t)))(hts:∀(j:Nat) (h1:j<l.length) (h2:j<a.length) (h3:j<ts.length),ts[j]=IntKind.i64.wrap (q l[j]*IntKind.i64.wrap (l[j].w+a[j]))):
  PC fs ms 114 [.fz k (fQ l),.fz k' (ints a),.func (.func F) [] aF] (.fz 2 (ints ts)):=by
 refine⟨by simp[bn,AV.cl,bJ,aE,hcap],by simp[AV.cl,aE],?_⟩;refine aA (af:=KP) false rfl (Nat.le_of_ble_eq_true rfl) ?_;generalize hQ:(fun(v:AV) (g:Heap)=>kz (fun _=>True) g v (.fz 2 (ints ts)))=Q;conv=>whnf
 refine⟨_,_,by rw[bM];exact Ad (by omega),?_⟩;conv=>whnf
 refine Kl 6 [(1,.fz k' (ints a)),(2,.func (.func F) [] aF),(7,.sl 0 0 l.length l.length false),(13,.fz k (fQ l)),(14,.int .i64 (fQ l).length),(15,.int .i64 ((0:Nat):Int))] 1 [(0,.cells (ints (iB ts 0)) true 0)] id (by repeat' (first|exact trivial|refine bt rfl (by omega) ?_|refine aV rfl (by omega) ?_|refine aJ rfl (by omega) ?_|refine aC rfl (by first|rfl|simp[bn,AV.cl,aE,bJ,hcap]) ?_|refine aC (au (by omega)) rfl ?_)) ⟨by omega,⟨_,rfl,ql (by rw[yA,ht])⟩,trivial⟩ (by intro b c hb hc _;simp at hb hc;omega) (fun b hb=>rfl) (Nat.zero_le _) ?_;refine jR 0 6 l.length (fun _=>True) (fun j=>[(1,.fz k' (ints a)),(2,.func (.func F) [] aF),(7,.sl 0 0 l.length l.length false),(13,.fz k (fQ l)),(14,.int .i64 (fQ l).length),(15,.int .i64 (j:Nat))]) (Rb ts) ?_ ?_ trivial
 ·intro j hj _;show kX fs ms 0 false false _ _ ⟨1,.node .nil (some (.cells (ints (iB ts j)) true 0)) .nil⟩ _;conv=>whnf
  refine br (fun hc=>?_) (fun hc=>?_)<;>(try rw[hc])<;>(conv=>whnf)
  ·refine⟨_,mK hj,?_⟩;conv=>whnf
   refine ai (hp l[j] (List.getElem_mem hj)) ?_;conv=>whnf
   refine⟨_,gX (by omega),?_⟩;conv=>whnf
   refine⟨_,eU hj,?_⟩;conv=>whnf
   refine CU (by show(Nat.ble (j+1) (ints (iB ts j)).length&&true)=true;rw[aT,oV ts (by omega),Bool.and_true];exact Nat.ble_eq_true_of_le (by omega)) ?_;conv=>whnf
   refine⟨dP (by(conv=>whnf);repeat' (first|exact trivial|(exact⟨rfl,rfl,.inr ⟨_,_,rfl⟩⟩)|(refine⟨rfl,rfl,.inl ⟨rfl,fun o ho=>?_⟩⟩;cases ho;first|rfl)|(exact⟨rfl,.inr ⟨_,_,rfl⟩⟩)|(refine⟨rfl,.inl ⟨rfl,fun i o hi ho=>?_⟩⟩;cases hi;cases ho;first|rfl)|(refine And.intro (fun dI=>(Bool.false_ne_true dI).elim) ?_<;>conv=>whnf)|(refine And.intro (fun _=>?_) ?_<;>conv=>whnf)|(refine And.intro ?_ ?_<;>conv=>whnf))),?_⟩;conv=>whnf
   refine⟨trivial,id,Nh (n:=1) (m:=[(0,_)]) _ (by repeat' (first|exact trivial|refine bt rfl (by omega) ?_|refine aV rfl (by omega) ?_|refine aJ rfl (by omega) ?_|refine aC rfl (by first|rfl|simp[bn,AV.cl,aE,bJ,hcap]) ?_|refine aC (au (by omega)) rfl ?_)) ⟨by omega,⟨_,rfl,ql (Bj ts (by omega) (hts j hj (by omega) (by omega)).symm)⟩,trivial⟩ (by intro b c hb hc _;simp at hb hc;omega) (by intro b hb;omega) (by omega)⟩
  ·exfalso;have:=of_decide_eq_false hc;rw[bM] at this;omega
 ·intro _;show kX fs ms 0 false false _ _ ⟨1,.node .nil (some (.cells (ints (iB ts l.length)) true 0)) .nil⟩ _;conv=>whnf
  refine br (fun hc=>?_) (fun hc=>?_)<;>(try rw[hc])<;>(conv=>whnf)
  ·exfalso;have:=of_decide_eq_true hc;rw[bM] at this;omega
  ·subst hQ;rw[←ht,Bi];exact .row (s:=1) trivial rfl (mY ts).symm (jA ts) (by rw[aT,ht]) (Nat.le_refl _) (by omega) (fun _=>rfl) (fun _=>rfl) (aE ts)
end Ir
end Go.Proofs.Ytecdcefacdodgaa
set_option maxRecDepth 100000
set_option linter.unusedSimpArgs false
set_option linter.unusedVariables false
namespace Go.Proofs.Ytecdcefacdodgaa
open Go Ads
namespace Ir
def qS(q:Tk→Int)(l:List Tk)(a:List Int):List Int:=List.zipWith (fun t m=>IntKind.i64.wrap (q t*IntKind.i64.wrap (t.w+m))) l a
def LA(l:List Tk)(a:List Int)(n:Int):Int×Int:=if dz l a=0∧0≤n∧n≤1048576 then(jX (qS (qL n) l a),0) else(0,2)
def oh(p:Int×Int):AV:=.cC [.int .i64 p.1,.int .i64 p.2]
theorem uf{l:List Tk}{a:List Int}(h:dz l a=0):a.any kJ=false∧cL l=true∧a.length=l.length:=by
 unfold dz at h;split at h
 ·assumption
 ·simp at h
theorem nq{l:List Tk}(h:cL l=true){t:Tk}(ht:t∈l):dw t=true∧1≤t.p:=by
 simp only[cL,Bool.and_eq_true,List.all_eq_true,decide_eq_true_eq] at h;have:dw t=true:=by first|exact h.1 t ht|exact h.2 t ht
 refine⟨this,?_⟩;simp only[dw,decide_eq_true_eq] at this;omega
theorem uF{l:List Tk}(h:cL l=true):l.length≤4:=by
 simp only[cL,Bool.and_eq_true,decide_eq_true_eq] at h;first|exact h.1|exact h.2
theorem Q1(k k':Nat)(l:List Tk)(a:List Int)(n:Int)(hl:l.length<2^62)(ha:a.length<2^62):PC fs ms 146 [.fz k (fQ l),.fz k' (ints a),.int .i64 n] (oh (LA l a n)):=by
 refine bq (by simp[bn,AV.cl,aE,bJ]) rfl ?_;refine iZ (af:=K7) rfl (Nat.le_of_ble_eq_true rfl) ?_;generalize hQ:(fun(v:AV) (_:Heap)=>v=oh (LA l a n))=Q;conv=>whnf
 refine iY false ?_;conv=>whnf
 refine iY false ?_;conv=>whnf
 refine ai (zD k k' l a hl ha) ?_;conv=>whnf
 iterate 4 (all_goals (first|(refine br (fun hc=>?_) (fun hc=>?_)<;>(try rw[hc])<;>(conv=>whnf))|skip))
 ·subst hQ;simp at hc;simp[LA,hc,oh]
 ·subst hQ;simp at hc;rw[LA,if_neg (by omega)];rfl
 ·subst hQ;simp at hc;rw[LA,if_neg (by omega)];rfl
 ·have h0:dz l a=0:=by rename_i h1 h2;simpa using h1
  obtain⟨h9,h1,h2⟩:=uf h0;have h3:=uF h1;refine iq [0] (i:=5) (v':=.fp [.int .i64 n] 0) rfl (.ptr' (by simp) rfl (.clean rfl)) ?_;refine bg (z:=false) ?_;conv=>whnf
  refine ai (HK (q:=qL n) k k' l a (qS (qL n) l a) (by omega) h2 (by simp[qS,h2]) rfl (fun t ht=>Pu n t (by have:=(nq h1 ht).2;omega)) (fun j _ _ _=>by simp[qS])) ?_;conv=>whnf
  refine ai (HG _ _ (by simp[qS];omega)) ?_;conv=>whnf
  subst hQ;rename_i c1 c2;simp at hc c2;rw[LA,if_pos (by omega)];rfl
end Ir
end Go.Proofs.Ytecdcefacdodgaa
set_option maxRecDepth 100000
set_option linter.unusedSimpArgs false
set_option linter.unusedVariables false
namespace Go.Proofs.Ytecdcefacdodgaa
open Go Ads
namespace Ir
theorem QC{l:List Int}{j:Nat}(h:j<l.length):jX (l.take (j+1))=IntKind.i64.wrap (jX (l.take j)+l[j]):=by
 rw[eG h,jX,List.foldl_append];rfl
theorem TT(l:List Int):IntKind.i64.wrap (jX l)=jX l:=by
 rcases List.eq_nil_or_concat l with h|⟨m,x,h⟩
 ·subst h;rfl
 ·subst h;rw[List.concat_eq_append,jX,List.foldl_append];show IntKind.i64.wrap (IntKind.i64.wrap (_+x))=IntKind.i64.wrap (_+x);exact wrap_wrap _
end Ir
end Go.Proofs.Ytecdcefacdodgaa
set_option maxRecDepth 100000
set_option linter.unusedSimpArgs false
set_option linter.unusedVariables false
namespace Go.Proofs.Ytecdcefacdodgaa
open Go Ads
namespace Ir
def Cu(n:Int)(t:Tk):Int:=IntKind.i64.wrap (n.tdiv t.p)
def Gj(n:Int)(t:Tk):Bool:=n.tmod t.p !=0
def vw(l:List Tk)(a:List Int)(n:Int):Int×Int:=if dz l a=0∧1≤n∧n≤1048576∧l.any (Gj n)=false then(jX (qS (Cu n) l a),0) else(0,2)
theorem P5(n:Int)(t:Tk)(hp:t.p≠0):PC fs ms 112 [tk t,.fp [.int .i64 n] 0] (.bool (Gj n t)):=by
 refine bq rfl rfl ?_;refine aA (af:=KN) false rfl (Nat.le_of_ble_eq_true rfl) ?_;generalize hQ:(fun(v:AV) (_:Heap)=>v=.bool (Gj n t))=Q;conv=>whnf
 refine⟨_,qk _ _ hp,?_⟩;conv=>whnf
 subst hQ;rfl
theorem P6(n:Int)(t:Tk)(hp:t.p≠0):PC fs ms 115 [tk t,.fp [.int .i64 n] 0] (.int .i64 (Cu n t)):=by
 refine bq rfl rfl ?_;refine aA (af:=KQ) false rfl (Nat.le_of_ble_eq_true rfl) ?_;generalize hQ:(fun(v:AV) (_:Heap)=>v=.int .i64 (Cu n t))=Q;conv=>whnf
 refine⟨_,jK _ _ hp,?_⟩;conv=>whnf
 subst hQ;rfl
theorem Oa(k k':Nat)(l:List Tk)(a:List Int)(n:Int)(hl:l.length<2^62)(ha:a.length<2^62):PC fs ms 85 [.fz k (fQ l),.fz k' (ints a),.int .i64 n] (oh (vw l a n)):=by
 refine bq (by simp[bn,AV.cl,aE,bJ]) rfl ?_;refine iZ (af:=Td) rfl (Nat.le_of_ble_eq_true rfl) ?_;generalize hQ:(fun(v:AV) (_:Heap)=>v=oh (vw l a n))=Q;conv=>whnf
 refine iY false ?_;conv=>whnf
 refine iY false ?_;conv=>whnf
 refine ai (zD k k' l a hl ha) ?_;conv=>whnf
 iterate 4 (all_goals (first|(refine br (fun hc=>?_) (fun hc=>?_)<;>(try rw[hc])<;>(conv=>whnf))|skip))
 ·subst hQ;simp at hc;simp[vw,hc,oh]
 ·subst hQ;simp at hc;rw[vw,if_neg (by omega)];rfl
 ·subst hQ;simp at hc;rw[vw,if_neg (by omega)];rfl
 ·rename_i c0 c1;have h0:dz l a=0:=by simpa using c0
  obtain⟨h9,h1,h2⟩:=uf h0;have h3:=uF h1;simp at hc c1;refine iq [0] (i:=5) (v':=.fp [.int .i64 n] 0) rfl (.ptr' (by simp) rfl (.clean rfl)) ?_;refine bg (z:=false) ?_;conv=>whnf
  refine ai (A7 (p:=Gj n) k l hl rfl (fun t ht=>P5 n t (by have:=(nq h1 ht).2;omega))) ?_;conv=>whnf
  refine br (fun GV=>?_) (fun GV=>?_)<;>rw[GV]<;>conv=>whnf
  ·subst hQ;rw[vw,if_neg (by rw[GV];simp)];rfl
  ·refine ai (HK (q:=Cu n) k k' l a (qS (Cu n) l a) (by omega) h2 (by simp[qS,h2]) rfl (fun t ht=>P6 n t (by have:=(nq h1 ht).2;omega)) (fun j _ _ _=>by simp[qS])) ?_;conv=>whnf
   refine ai (HG _ _ (by simp[qS];omega)) ?_;conv=>whnf
   subst hQ;rw[vw,if_pos ⟨h0,by omega,by omega,GV⟩];rfl
theorem QO{α:Type}{l:List α}{p:α→Bool}{j:Nat}(hj:j<l.length)(h:p l[j]=true):l.any p=true:=List.any_eq_true.2 ⟨l[j],List.getElem_mem hj,h⟩
theorem AO{α:Type}{l:List α}{p:α→Bool}{j:Nat}(hj:j<l.length)(hi:(l.take j).any p=false)(h:p l[j]=false):(l.take (j+1)).any p=false:=by
 rw[eG hj,List.any_append,hi];simp[h]
end Ir
end Go.Proofs.Ytecdcefacdodgaa
set_option maxRecDepth 100000
set_option linter.unusedSimpArgs false
set_option linter.unusedVariables false
namespace Go.Proofs.Ytecdcefacdodgaa
open Go Ads
namespace Ir
theorem BW{a n:Nat}(ha:1≤a)(Vl:a≤1048576)(hn:1≤n)(hn2:n≤1048576):fJ ((a:Int),0) n=(((Nat.lcm a n:Nat):Int),0):=by
 have ta:bS (a:Int)=true:=(bP _).2 (by omega);have tn:bS (n:Int)=true:=(bP _).2 (by omega);have hL:Nat.lcm a n=a*(n/Nat.gcd a n):=by
  rw[Nat.lcm,Nat.mul_div_assoc _ (Nat.gcd_dvd_right a n)]
 have g2:oP a n=(((Nat.gcd a n:Nat):Int),0):=by simp[oP,ta,tn]
 have hq:(n:Int).tdiv (Nat.gcd a n:Nat)=((n/Nat.gcd a n:Nat):Int):=by rw[Int.ofNat_tdiv]
 have hle:n/Nat.gcd a n≤1048576:=by have:=Nat.div_le_self n (Nat.gcd a n);omega
 have tq:bS ((n/Nat.gcd a n:Nat):Int)=true:=(bP _).2 (by generalize n/Nat.gcd a n=q at*;omega);have hmul:(a:Int)*((n/Nat.gcd a n:Nat):Int)=((Nat.lcm a n:Nat):Int):=by rw[hL];simp
 have hb:Nat.lcm a n≤1048576*1048576:=by rw[hL];exact Nat.mul_le_mul Vl hle
 simp only[fJ,if_true,g2,hq,xT,ta,tq,Bool.and_self,hmul];rw[if_neg (by omega)]
theorem Mp{a n:Nat}(ha:1≤a)(Vl:a≤4096)(hn:1≤n)(hn2:n≤64):xR 4096 [(a:Int),(n:Int)]=(if Nat.lcm a n≤4096 then(((Nat.lcm a n:Nat):Int),(0:Int)) else(0,10)):=by
 have ta:bS (a:Int)=true:=(bP _).2 (by omega);have tn:bS (n:Int)=true:=(bP _).2 (by omega);have f:[(a:Int),(n:Int)].foldl fJ (1,0)=(((Nat.lcm a n:Nat):Int),0):=by
  have h1:fJ (1,0) (a:Int)=((a:Int),0):=by
   have:=BW (a:=1) (n:=a) (by omega) (by omega) ha (by omega)
   rwa [Nat.lcm_one_left] at this
  simp only[List.foldl_cons,List.foldl_nil,h1];exact BW ha (by omega) hn (by omega)
 have hc:(bS 4096&&([(a:Int),(n:Int)].all bS&&![(a:Int),(n:Int)].contains 0))=true:=by
  have e1:bS 4096=true:=rfl;simp[e1,ta,tn];omega
 have hb:Nat.lcm a n≤1048576:=Nat.le_trans (Nat.le_of_dvd (Nat.mul_pos ha hn) (Nat.lcm_dvd_mul a n)) (Nat.le_trans (Nat.mul_le_mul Vl hn2) (by decide));simp only[xR,f,hc,if_true];by_cases h:Nat.lcm a n≤4096
 ·rw[if_neg (by rintro⟨_,x⟩;omega),w7,if_pos rfl,if_neg (by omega),if_pos h]
 ·rw[if_pos ⟨trivial,by omega⟩,w7,if_neg (by decide),if_neg h]
def PN(l:List Tk):List Nat:=l.map (·.p.toNat)
def gU(l:List Tk)(n:Nat):Nat:=(PN l).foldl Nat.lcm n
def mJ(l:List Tk)(n:Int):Int×Int:=if cL l=true∧1≤n∧n≤64 then(if gU l n.toNat≤4096 then((gU l n.toNat:Nat),0) else(0,5)) else(0,2)
theorem I2{l:List Tk}{j:Nat}(hj:j<l.length)(n:Nat):gU (l.take (j+1)) n=Nat.lcm (gU (l.take j) n) l[j].p.toNat:=by
 simp only[gU,PN];rw[eG hj];simp only[List.map_append,List.foldl_append];rfl
theorem BP(t:Tk)(l:List Tk)(n:Nat):gU (t::l) n=gU l (Nat.lcm n t.p.toNat):=rfl
theorem z7(l:List Tk):∀(n m:Nat),gU l n∣m↔n∣m∧∀t,t∈l→t.p.toNat∣m:=by
 induction l with
 |nil=>intro n m;simp[gU,PN]
 |cons t l ih=>
  intro n m;rw[BP,ih,Nat.lcm_dvd_iff];constructor
  ·rintro⟨⟨x,y⟩,z⟩;exact⟨x,fun u hu=>by rcases List.mem_cons.1 hu with h|h;exact h▸y;exact z u h⟩
  ·rintro⟨x,y⟩;exact⟨⟨x,y t List.mem_cons_self⟩,fun u hu=>y u (List.mem_cons_of_mem _ hu)⟩
theorem z8{l:List Tk}(h:∀t,t∈l→1≤t.p):∀{n:Nat},1≤n→1≤gU l n:=by
 induction l with
 |nil=>intro n hn;exact hn
 |cons t l ih=>
  intro n hn;rw[BP];exact ih (fun u hu=>h u (List.mem_cons_of_mem _ hu)) (Nat.lcm_pos hn (by have:=h t List.mem_cons_self;omega))
theorem I0{l:List Tk}(h:∀t,t∈l→1≤t.p){n:Nat}(hn:1≤n)(j:Nat):gU (l.take j) n≤gU l n:=by
 refine Nat.le_of_dvd (z8 h hn) ?_;rw[z7];have:=(z7 l n (gU l n)).1 (Nat.dvd_refl _);exact⟨this.1,fun t ht=>this.2 t (List.mem_of_mem_take ht)⟩
theorem HE(k:Nat)(l:List Tk)(n:Int)(hl:l.length<2^62):PC fs ms 84 [.fz k (fQ l),.int .i64 n] (oh (mJ l n)):=by
 refine bq (by simp[bn,AV.cl,aE,bJ]) rfl ?_;refine aA (af:=Tc) false rfl (Nat.le_of_ble_eq_true rfl) ?_;generalize hQ:(fun(v:AV) (_:Heap)=>v=oh (mJ l n))=Q;conv=>whnf
 refine ai (M3 k l hl) ?_;conv=>whnf
 iterate 4 (all_goals (first|(refine br (fun hc=>?_) (fun hc=>?_)<;>(try rw[hc])<;>(conv=>whnf))|skip))
 ·subst hQ;rw[mJ,if_neg (by simp at hc;simp[hc])];rfl
 ·subst hQ;simp at hc;rw[mJ,if_neg (by omega)];rfl
 ·subst hQ;simp at hc;rw[mJ,if_neg (by omega)];rfl
 rename_i c0 c1;have h1:cL l=true:=by simpa using c0
 simp at hc c1;obtain⟨N,rfl⟩:=Int.eq_ofNat_of_zero_le (show 0≤n by omega);have hps:∀t,t∈l→1≤t.p:=fun t ht=>(nq h1 ht).2;have h64:∀t,t∈l→t.p≤64:=fun t ht=>by
  have:=(nq h1 ht).1;simp only[dw,decide_eq_true_eq] at this;omega
 refine dy 6 [(6,.int .i64 ((gU (l.take 0) N:Nat):Int)),(23,.fz k (fQ l)),(24,.int .i64 (fQ l).length),(25,.int .i64 ((0:Nat):Int))] (by repeat' (first|exact trivial|refine bt rfl (by omega) ?_|refine aV rfl (by omega) ?_|refine aJ rfl (by omega) ?_|refine aC rfl (by first|rfl|simp[bn,AV.cl,aE,bJ]) ?_|refine aC (au (by omega)) rfl ?_)) ?_;refine fH 6 l.length (fun j=>gU (l.take j) N≤4096) (fun j=>[(6,.int .i64 ((gU (l.take j) N:Nat):Int)),(23,.fz k (fQ l)),(24,.int .i64 (fQ l).length),(25,.int .i64 (j:Nat))]) ?_ ?_ (by show N≤4096;omega)
 ·intro j hj hi;have hm:=List.getElem_mem hj;have p1:=hps _ hm;have p2:=h64 _ hm;obtain⟨p,hp⟩:=Int.eq_ofNat_of_zero_le (show 0≤l[j].p by omega);have hN:=I2 hj N;have hpos:1≤gU (l.take j) N:=z8 (fun t ht=>hps t (List.mem_of_mem_take ht)) (by omega);rw[hp,show((p:Int)).toNat=p from rfl] at hN;conv=>whnf
  refine br (fun hc=>?_) (fun hc=>?_)<;>(try rw[hc])<;>(conv=>whnf)
  ·refine⟨_,mK hj,?_⟩;conv=>whnf
   refine ja (Sw 4096 2 [((gU (l.take j) N:Nat):Int),l[j].p] (by simp)) rfl (.cons (.clean rfl) (.cons (.row (s:=1) trivial rfl rfl rfl rfl (Nat.le_refl _) (by omega) (fun _=>rfl) (fun _=>rfl) rfl) .nil)) ?_;rw[hp,Mp hpos hi (by omega) (by omega),←hN];by_cases hle:gU (l.take (j+1)) N≤4096
   ·rw[if_pos hle];conv=>whnf
    exact⟨hle,(by repeat' (first|exact trivial|refine bt rfl (by omega) ?_|refine aV rfl (by omega) ?_|refine aJ rfl (by omega) ?_|refine aC rfl (by first|rfl|simp[bn,AV.cl,aE,bJ]) ?_|refine aC (au (by omega)) rfl ?_))⟩
   ·rw[if_neg hle];conv=>whnf
    subst hQ;have:=I0 hps (n:=N) (by omega) (j+1);rw[mJ,if_pos ⟨h1,by omega,by omega⟩,show((N:Int)).toNat=N from rfl,if_neg (by omega)];rfl
  ·exfalso;have:=of_decide_eq_false hc;simp only[bM] at this;omega
 ·intro hi;conv=>whnf
  refine br (fun hc=>?_) (fun hc=>?_)<;>(try rw[hc])<;>(conv=>whnf)
  ·exfalso;have:=of_decide_eq_true hc;simp only[bM] at this;omega
  ·subst hQ;rw[List.take_length] at*;rw[mJ,if_pos ⟨h1,by omega,by omega⟩,show((N:Int)).toNat=N from rfl,if_pos hi];rfl
end Ir
end Go.Proofs.Ytecdcefacdodgaa
set_option maxRecDepth 100000
set_option linter.unusedSimpArgs false
set_option linter.unusedVariables false
namespace Go.Proofs.Ytecdcefacdodgaa
open Go Ads
namespace Ir
theorem za:∀(l:List Int) (s:Int),(∀x,x∈l→0≤x∧x≤4503599627370496)→0≤s→s+l.length*4503599627370496≤4611686018427387904→l.foldl (fun s x=>IntKind.i64.wrap (s+x)) s=s+l.sum
 |[],s,_,_,_=>by simp
 |x::l,s,h,h0,h1=>by
  have hx:=h x List.mem_cons_self;simp only[List.length_cons] at h1;have e:IntKind.i64.wrap (s+x)=s+x:=IntWalk.i64_in _ (by omega);rw[List.foldl_cons,e,za l (s+x) (fun y hy=>h y (List.mem_cons_of_mem _ hy)) (by omega) (by omega),List.sum_cons];omega
theorem Ef{l:List Int}(h:∀x,x∈l→0≤x∧x≤4503599627370496)(hl:l.length≤1024):jX l=l.sum:=by
 rw[jX,za l 0 h (by omega) (by omega)];omega
def sV(t:Tk):Prop:=1≤t.w∧t.w≤t.d∧t.d≤t.p∧t.p≤64
def dg(q:Tk→Int)(l:List Tk)(a:List Int):List Int:=List.zipWith (fun t m=>q t*(t.w+m)) l a
theorem sY{q:Tk→Int}:∀(l:List Tk) (a:List Int),(∀t,t∈l→sV t∧0≤q t∧q t≤1073741824)→(∀m,m∈a→0≤m∧m≤32768)→qS q l a=dg q l a∧∀x,x∈dg q l a→0≤x∧x≤4503599627370496
 |[],a,_,_=>by simp[qS,dg]
 |t::l,[],_,_=>by simp[qS,dg]
 |t::l,m::a,h1,h2=>by
  obtain⟨o,q1,q2⟩:=h1 t List.mem_cons_self;obtain⟨m1,m2⟩:=h2 m List.mem_cons_self;obtain⟨i1,i2⟩:=sY l a (fun t ht=>h1 t (List.mem_cons_of_mem _ ht)) (fun m hm=>h2 m (List.mem_cons_of_mem _ hm));obtain⟨o1,o2,o3,o4⟩:=o;have e1:IntKind.i64.wrap (t.w+m)=t.w+m:=IntWalk.i64_in _ (by omega);have b1:0≤q t*(t.w+m):=Int.mul_nonneg q1 (by omega);have b2:q t*(t.w+m)≤1073741824*33000:=Int.mul_le_mul q2 (by omega) (by omega) (by omega);have e2:IntKind.i64.wrap (q t*(t.w+m))=q t*(t.w+m):=IntWalk.i64_in _ (by omega);constructor
  ·show IntKind.i64.wrap (q t*IntKind.i64.wrap (t.w+m))::qS q l a=q t*(t.w+m)::dg q l a;rw[e1,e2,i1]
  ·intro x hx;rcases List.mem_cons.1 hx with h|h
   ·have h':x=q t*(t.w+m):=h;rw[h'];omega
   ·exact i2 x h
theorem zb:∀(l:List Int),(∀x,x∈l→0≤x∧x≤4503599627370496)→0≤l.sum∧l.sum≤l.length*4503599627370496
 |[],_=>by simp
 |x::l,h=>by
  have hx:=h x List.mem_cons_self;have:=zb l (fun y hy=>h y (List.mem_cons_of_mem _ hy));simp only[List.sum_cons,List.length_cons];omega
theorem PZ{q:Tk→Int}{l:List Tk}{a:List Int}(h1:∀t,t∈l→sV t∧0≤q t∧q t≤1073741824)(h2:∀m,m∈a→0≤m∧m≤32768)(hl:l.length≤1024):0≤(dg q l a).sum∧(dg q l a).sum≤4611686018427387904:=by
 have:=zb _ (sY l a h1 h2).2;have h3:(dg q l a).length≤1024:=by simp[dg];omega
 omega
theorem Fo{q:Tk→Int}{l:List Tk}{a:List Int}(h1:∀t,t∈l→sV t∧0≤q t∧q t≤1073741824)(h2:∀m,m∈a→0≤m∧m≤32768)(hl:l.length≤1024):jX (qS q l a)=(dg q l a).sum:=by
 obtain⟨i1,i2⟩:=sY l a h1 h2;rw[i1,Ef i2 (by simp[dg];omega)]
def bX(n:Int)(t:Tk):Int:=if n<t.d then 0 else 1+(n-t.d)/t.p
theorem ri{n:Int}{t:Tk}(h:sV t)(h0:0≤n)(h1:n≤1048576):qL n t=bX n t∧0≤bX n t∧bX n t≤1048577:=by
 obtain⟨o1,o2,o3,o4⟩:=h;unfold qL bX;split
 ·simp
 ·rename_i hn;have e1:IntKind.i64.wrap (n-t.d)=n-t.d:=IntWalk.i64_in _ (by omega);have e2:(n-t.d).tdiv t.p=(n-t.d)/t.p:=Int.tdiv_eq_ediv_of_nonneg (by omega);have b1:0≤(n-t.d)/t.p:=Int.ediv_nonneg (by omega) (by omega);have b2:(n-t.d)/t.p≤n-t.d:=Int.ediv_le_self _ (by omega);rw[e1,e2];generalize(n-t.d)/t.p=z at*;rw[IntWalk.i64_in z (by omega),IntWalk.i64_in _ (by omega)];omega
theorem ze{n:Int}{t:Tk}(h:sV t)(h0:0≤n)(h1:n≤1048576):Cu n t=n/t.p∧0≤n/t.p∧n/t.p≤1048576:=by
 obtain⟨o1,o2,o3,o4⟩:=h;have e2:n.tdiv t.p=n/t.p:=Int.tdiv_eq_ediv_of_nonneg h0;have b1:0≤n/t.p:=Int.ediv_nonneg (by omega) (by omega);have b2:n/t.p≤n:=Int.ediv_le_self _ h0;rw[Cu,e2];generalize n/t.p=z at*;rw[IntWalk.i64_in z (by omega)];omega
theorem Pv{n h:Int}{t:Tk}(o:sV t)(hn:64≤n)(hd:t.p∣h)(hh:0≤h):bX (n+h) t=bX n t+h/t.p:=by
 obtain⟨o1,o2,o3,o4⟩:=o;obtain⟨c,rfl⟩:=hd;rw[bX,bX,if_neg (by omega),if_neg (by omega),Int.mul_ediv_cancel_left c (by omega),show n+t.p*c-t.d=n-t.d+t.p*c by omega,Int.add_mul_ediv_left _ _ (by omega)];omega
theorem QA{n m:Int}{t:Tk}(o:sV t)(h0:0≤n)(h:n≤m):bX n t≤bX m t:=by
 obtain⟨o1,o2,o3,o4⟩:=o;unfold bX;split
 ·split
  ·omega
  ·have:=Int.ediv_nonneg (a:=m-t.d) (b:=t.p) (by omega) (by omega);omega
 ·rw[if_neg (by omega)];have:=Int.ediv_le_ediv (a:=n-t.d) (b:=m-t.d) (c:=t.p) (by omega) (by omega);omega
theorem vo{q r:Tk→Int}:∀(l:List Tk) (a:List Int),(∀t,t∈l→q t=r t)→dg q l a=dg r l a
 |[],a,_=>by simp[dg]
 |t::l,[],_=>by simp[dg]
 |t::l,m::a,h=>by
  show q t*(t.w+m)::dg q l a=r t*(t.w+m)::dg r l a;rw[h t List.mem_cons_self,vo l a fun u hu=>h u (List.mem_cons_of_mem _ hu)]
theorem Ew{q r s:Tk→Int}:∀(l:List Tk) (a:List Int),(∀t,t∈l→q t=r t+s t)→(dg q l a).sum=(dg r l a).sum+(dg s l a).sum
 |[],a,_=>by simp[dg]
 |t::l,[],_=>by simp[dg]
 |t::l,m::a,h=>by
  show(q t*(t.w+m)::dg q l a).sum=(r t*(t.w+m)::dg r l a).sum+(s t*(t.w+m)::dg s l a).sum;have:=Ew (q:=q) (r:=r) (s:=s) l a fun u hu=>h u (List.mem_cons_of_mem _ hu);rw[List.sum_cons,List.sum_cons,List.sum_cons,h t List.mem_cons_self,this,Int.add_mul];omega
theorem Hu{q r:Tk→Int}:∀(l:List Tk) (a:List Int),(∀t,t∈l→sV t∧q t≤r t)→(∀m,m∈a→0≤m)→(dg q l a).sum≤(dg r l a).sum
 |[],a,_,_=>by simp[dg]
 |t::l,[],_,_=>by simp[dg]
 |t::l,m::a,h,h2=>by
  show(q t*(t.w+m)::dg q l a).sum≤(r t*(t.w+m)::dg r l a).sum;have:=Hu (q:=q) (r:=r) l a (fun u hu=>h u (List.mem_cons_of_mem _ hu)) (fun m hm=>h2 m (List.mem_cons_of_mem _ hm));obtain⟨⟨o1,o2,o3,o4⟩,hq⟩:=h t List.mem_cons_self;have hm:=h2 m List.mem_cons_self;have:=Int.mul_le_mul_of_nonneg_right hq (show 0≤t.w+m by omega);rw[List.sum_cons,List.sum_cons];omega
theorem wZ{l:List Tk}(h:∀t,t∈l→sV t)(hl:l.length≤4):cL l=true:=by
 have:l.all dw=true:=by
  rw[List.all_eq_true];intro t ht;have:=h t ht;simp only[sV] at this;simp only[dw,decide_eq_true_eq];omega
 simp[cL,this,hl]
theorem ud{l:List Tk}{a:List Int}(h:∀t,t∈l→sV t)(hl:l.length≤4)(ha:∀m,m∈a→0≤m∧m≤32768)(hla:a.length=l.length):dz l a=0:=by
 have:a.any kJ=false:=by
  rw[List.any_eq_false];intro m hm;have:=ha m hm;simp only[kJ,decide_eq_true_eq];simp;omega
 rw[dz,if_pos ⟨this,wZ h hl,hla⟩]
theorem N6{l:List Tk}{a:List Int}{n:Int}(h:∀t,t∈l→sV t)(hl:l.length≤4)(ha:∀m,m∈a→0≤m∧m≤32768)(hla:a.length=l.length)(h0:0≤n)(h1:n≤1048576):
  LA l a n=((dg (bX n) l a).sum,0):=by
 rw[LA,if_pos ⟨ud h hl ha hla,h0,h1⟩];have hq:∀t,t∈l→qL n t=bX n t:=fun t ht=>(ri (h t ht) h0 h1).1;rw[Fo (fun t ht=>⟨h t ht,by have:=ri (h t ht) h0 h1;rw[this.1];omega⟩) ha (by omega),vo l a hq]
theorem I1{l:List Tk}{n:Int}(h:∀t,t∈l→sV t)(hl:l.length≤4)(h1:1≤n)(h2:n≤64):(mJ l n=(((gU l n.toNat:Nat):Int),0)∧gU l n.toNat≤4096∧1≤gU l n.toNat)∨mJ l n=(0,5):=by
 rw[mJ,if_pos ⟨wZ h hl,h1,h2⟩];by_cases h4:gU l n.toNat≤4096
 ·rw[if_pos h4];exact .inl ⟨rfl,h4,z8 (fun t ht=>by have:=h t ht;simp only[sV] at this;omega) (by omega)⟩
 ·rw[if_neg h4];exact .inr rfl
theorem LC{l:List Tk}{a:List Int}{n:Int}(h:∀t,t∈l→sV t)(hl:l.length≤4)(ha:∀m,m∈a→0≤m∧m≤32768)(hla:a.length=l.length)(h0:1≤n)(h1:n≤1048576)(hd:∀t,t∈l→t.p∣n):
  vw l a n=((dg (fun t=>n/t.p) l a).sum,0):=by
 have Wb:l.any (Gj n)=false:=by
  rw[List.any_eq_false];intro t ht;have:n.tmod t.p=0:=Int.tmod_eq_zero_of_dvd (hd t ht);simp[Gj,this]
 rw[vw,if_pos ⟨ud h hl ha hla,h0,h1,Wb⟩];have hq:∀t,t∈l→Cu n t=n/t.p:=fun t ht=>(ze (h t ht) (by omega) h1).1;rw[Fo (fun t ht=>⟨h t ht,by have:=ze (h t ht) (by omega) h1;rw[this.1];omega⟩) ha (by omega),vo l a hq]
end Ir
end Go.Proofs.Ytecdcefacdodgaa
