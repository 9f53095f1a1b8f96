/-
  Layer 1: Lcm. Demand: the tasks. Demand: rows of tasks. Demand: ContainsFunc over numbers and tasks. Demand: what is refused. Demand: what the document's Check refuses. Demand: jobs of a task; each; sum. Demand: each. Demand: Of. Demand: the document's Of. Demand: Use of both. Demand: Hyper of the program. Demand: what is asked for, without ends of the numbers. Judge: a partition's notes. Judge: in how many ticks a partition ran. Rows that grow, in any heap. Many blocks at once: each has a role.
-/
import Derived.Test.YtnlcabhfkpafmaaGreatIrLink
import Derived.Test.YtnlcabhfkpafmaaGreatZA
import Derived.Test.YtnlcabhfkpafmaaGreatVsLoop
set_option maxRecDepth 100000
set_option linter.unusedSimpArgs false
set_option linter.unusedVariables false
namespace Go.Proofs.YtnlcabhfkpafmaaGreat
open Go Ads
namespace Ir
structure Tk where
 p:Int
 d:Int
 w:Int
 a:Int
 b:Int
 c:Int
 e:Int
 f:Int
def tk(t:Tk):AV:=.agg [.int .i64 t.p,.int .i64 t.d,.int .i64 t.w,.int .i64 t.a,.int .i64 t.b,.int .i64 t.c,.int .i64 t.e,.int .i64 t.f]
def eP(l:List Tk):List AV:=l.map tk
def iG(t:Tk):Bool:=decide (1≤t.w∧t.w≤t.d∧t.d≤t.p∧t.p≤64)
theorem OE(t:Tk):PC fs ms 113 [tk t] (.bool (iG t)):=by
 refine cr rfl rfl ?_;refine ak (af:=K2) false rfl (Nat.le_of_ble_eq_true rfl) ?_;generalize hQ:(fun(v:AV) (_:Heap)=>v=.bool (iG t))=Q;conv=>whnf
 iterate 8 (all_goals (first|(refine br (fun hc=>?_) (fun hc=>?_)<;>(try rw[hc])<;>(conv=>whnf))|skip))
 all_goals (subst hQ;simp only[iG];refine congrArg AV.bool ?_;rw[Bool.eq_iff_iff];simp at*;omega)
theorem UA(t:Tk):PC fs ms 107 [tk t] (.bool (iG t)):=by
 refine cr rfl rfl ?_;refine ak (af:=KX) false rfl (Nat.le_of_ble_eq_true rfl) ?_;generalize hQ:(fun(v:AV) (_:Heap)=>v=.bool (iG t))=Q;conv=>whnf
 iterate 8 (all_goals (first|(refine br (fun hc=>?_) (fun hc=>?_)<;>(try rw[hc])<;>(conv=>whnf))|skip))
 all_goals (subst hQ;simp only[iG];refine congrArg AV.bool ?_;rw[Bool.eq_iff_iff];simp at*;omega)
theorem bF(l:List Tk):cD (eP l)=true:=pT (enc:=tk) (fun _=>rfl) l
theorem bt(l:List Tk):(eP l).length=l.length:=List.length_map ..
theorem kD{l:List Tk}{j k:Nat}(hj:j<l.length):pV (.az 8) [.fz k (eP l),.int .i64 (j:Nat)]=some (.fp (tk l[j]).cells 0):=uX (enc:=tk) hj rfl
def cj(l:List Tk):Bool:=l.all iG&&decide (l.length≤4)
theorem B3(k:Nat)(l:List Tk)(hl:l.length<2^62):PC fs ms 55 [.fz k (eP l)] (.bool (cj l)):=by
 refine cr (by simp[cD,AV.cl,bF]) rfl ?_;refine ak (af:=VB) false rfl (Nat.le_of_ble_eq_true rfl) ?_;generalize hQ:(fun(v:AV) (_:Heap)=>v=.bool (cj l))=Q;conv=>whnf
 refine gX 5 [(0,.fz k (eP l)),(3,.int .i64 ((0:Nat):Int))] (by repeat' (first|exact trivial|refine cC rfl (by omega) ?_|refine bZ rfl (by omega) ?_|refine bC rfl (by omega) ?_|refine aV rfl (by first|rfl|simp[cD,AV.cl,bS,bF]) ?_|refine aV (aK (by omega)) rfl ?_)) ?_;refine fM 5 l.length (fun j=>(l.take j).all iG=true) (fun j=>[(0,.fz k (eP l)),(3,.int .i64 (j:Nat))]) ?_ ?_ rfl
 ·intro j hj hi;conv=>whnf
  refine br (fun hc=>?_) (fun hc=>?_)<;>(try rw[hc])<;>(conv=>whnf)
  ·refine⟨_,kD hj,?_⟩;conv=>whnf
   refine aR (OE _) ?_;conv=>whnf
   refine br (fun hc=>?_) (fun hc=>?_)<;>(try rw[hc])<;>(conv=>whnf)
   ·subst hQ;have hf:l.all iG=false:=by
     rw[Bool.eq_false_iff];intro ha;rw[List.all_eq_true] at ha;have:=ha _ (List.getElem_mem hj);simp[this] at hc
    simp[cj,hf]
   ·refine⟨?_,⟨_,rfl,.cl (by simp[AV.cl,bF])⟩,⟨_,aK (by omega),.cl rfl⟩,trivial⟩;rw[nu hj,List.all_append,hi];simp at hc;simp[hc]
  ·exfalso;have:=of_decide_eq_false hc;rw[bt] at this;omega
 ·intro hi;conv=>whnf
  refine br (fun hc=>?_) (fun hc=>?_)<;>(try rw[hc])<;>(conv=>whnf)
  ·exfalso;have:=of_decide_eq_true hc;rw[bt] at this;omega
  ·subst hQ;rw[List.take_length] at hi;refine congrArg AV.bool ?_;rw[cj,hi,Bool.true_and,Bool.eq_iff_iff];simp[bt];omega
theorem Rt{F:Nat}{aM:List AV}{p:Int→Bool}(k:Nat)(l:List Int)(hl:l.length<2^62)(hcap:cD aM=true)(hp:∀m,PC fs ms F (.int .i64 m::aM) (.bool (p m))):
  ∃n:Int,PC fs ms 104 [.fz k (ints l),.func (.func F) [] aM] (.int .i64 n)∧decide (n≥0)=l.any p:=by
 by_cases ha:l.any p=true
 ·obtain⟨j,hj,h1,h2⟩:=p8 (l:=l) (p:=fun m=>p m=true) (by simpa using ha);refine⟨(j:Nat),?_,by rw[ha];simp⟩;refine cr (by simp[cD,AV.cl,bS,hcap]) rfl ?_;refine ak (af:=GS) false rfl (Nat.le_of_ble_eq_true rfl) ?_;generalize hQ:(fun(v:AV) (_:Heap)=>v=.int .i64 (j:Nat))=Q;conv=>whnf
  refine gX 5 [(0,.fz k (ints l)),(1,.func (.func F) [] aM),(7,.int .i64 (ints l).length),(8,.int .i64 ((0:Nat):Int))] (by repeat' (first|exact trivial|refine cC rfl (by omega) ?_|refine bZ rfl (by omega) ?_|refine bC rfl (by omega) ?_|refine aV rfl (by first|rfl|simp[cD,AV.cl,bS,hcap]) ?_|refine aV (aK (by omega)) rfl ?_)) ?_;refine fM 5 j (fun _=>True) (fun i=>[(0,.fz k (ints l)),(1,.func (.func F) [] aM),(7,.int .i64 (ints l).length),(8,.int .i64 (i:Nat))]) ?_ ?_ trivial
  ·intro i hi _;conv=>whnf
   refine br (fun hc=>?_) (fun hc=>?_)<;>(try rw[hc])<;>(conv=>whnf)
   ·refine⟨_,sy (by omega),?_⟩;conv=>whnf
    refine aR (hp _) ?_;conv=>whnf
    refine br (fun hc=>?_) (fun hc=>?_)<;>(try rw[hc])<;>(conv=>whnf)
    ·exact absurd hc (h2 i (by omega) hi)
    ·refine⟨trivial,⟨_,rfl,.cl (by simp[AV.cl,bS])⟩,⟨_,rfl,.cl (by simp[AV.cl,cD,hcap])⟩,⟨_,rfl,.cl rfl⟩,⟨_,aK (by omega),.cl rfl⟩,trivial⟩
   ·exfalso;have:=of_decide_eq_false hc;rw[bI] at this;omega
  ·intro _;conv=>whnf
   refine br (fun hc=>?_) (fun hc=>?_)<;>(try rw[hc])<;>(conv=>whnf)
   ·refine⟨_,sy hj,?_⟩;conv=>whnf
    refine aR (hp _) ?_;conv=>whnf
    refine br (fun hc=>?_) (fun hc=>?_)<;>(try rw[hc])<;>(conv=>whnf)
    ·subst hQ;rfl
    ·rw[h1] at hc;simp at hc
   ·exfalso;have:=of_decide_eq_false hc;rw[bI] at this;omega
 ·have hn:∀m,m∈l→p m=false:=by
   intro m hm;rw[Bool.eq_false_iff];intro h;exact ha (List.any_eq_true.2 ⟨m,hm,h⟩)
  refine⟨-1,?_,by rw[Bool.eq_false_iff.2 ha];decide⟩;refine cr (by simp[cD,AV.cl,bS,hcap]) rfl ?_;refine ak (af:=GS) false rfl (Nat.le_of_ble_eq_true rfl) ?_;generalize hQ:(fun(v:AV) (_:Heap)=>v=.int .i64 (-1))=Q;conv=>whnf
  refine gX 5 [(0,.fz k (ints l)),(1,.func (.func F) [] aM),(7,.int .i64 (ints l).length),(8,.int .i64 ((0:Nat):Int))] (by repeat' (first|exact trivial|refine cC rfl (by omega) ?_|refine bZ rfl (by omega) ?_|refine bC rfl (by omega) ?_|refine aV rfl (by first|rfl|simp[cD,AV.cl,bS,hcap]) ?_|refine aV (aK (by omega)) rfl ?_)) ?_;refine fM 5 l.length (fun _=>True) (fun i=>[(0,.fz k (ints l)),(1,.func (.func F) [] aM),(7,.int .i64 (ints l).length),(8,.int .i64 (i:Nat))]) ?_ ?_ trivial
  ·intro i hi _;conv=>whnf
   refine br (fun hc=>?_) (fun hc=>?_)<;>(try rw[hc])<;>(conv=>whnf)
   ·refine⟨_,sy (by omega),?_⟩;conv=>whnf
    refine aR (hp _) ?_;conv=>whnf
    refine br (fun hc=>?_) (fun hc=>?_)<;>(try rw[hc])<;>(conv=>whnf)
    ·rw[hn _ (List.getElem_mem hi)] at hc;simp at hc
    ·refine⟨trivial,⟨_,rfl,.cl (by simp[AV.cl,bS])⟩,⟨_,rfl,.cl (by simp[AV.cl,cD,hcap])⟩,⟨_,rfl,.cl rfl⟩,⟨_,aK (by omega),.cl rfl⟩,trivial⟩
   ·exfalso;have:=of_decide_eq_false hc;rw[bI] at this;omega
  ·intro _;conv=>whnf
   refine br (fun hc=>?_) (fun hc=>?_)<;>(try rw[hc])<;>(conv=>whnf)
   ·exfalso;have:=of_decide_eq_true hc;rw[bI] at this;omega
   ·subst hQ;rfl
theorem Ts{F:Nat}{aM:List AV}{p:Int→Bool}(k:Nat)(l:List Int)(hl:l.length<2^62)(hcap:cD aM=true)(hp:∀m,PC fs ms F (.int .i64 m::aM) (.bool (p m))):
  PC fs ms 40 [.fz k (ints l),.func (.func F) [] aM] (.bool (l.any p)):=by
 obtain⟨n,c1,c2⟩:=Rt k l hl hcap hp;refine cr (by simp[cD,AV.cl,bS,hcap]) rfl ?_;refine ak (af:=Vp) false rfl (Nat.le_of_ble_eq_true rfl) ?_;generalize hQ:(fun(v:AV) (_:Heap)=>v=.bool (l.any p))=Q;conv=>whnf
 refine aR c1 ?_;conv=>whnf
 subst hQ;exact congrArg AV.bool c2
theorem Ru{F:Nat}{aM:List AV}{p:Tk→Bool}(k:Nat)(l:List Tk)(hl:l.length<2^62)(hcap:cD aM=true)(hp:∀m,m∈l→PC fs ms F (tk m::aM) (.bool (p m))):
  ∃n:Int,PC fs ms 149 [.fz k (eP l),.func (.func F) [] aM] (.int .i64 n)∧decide (n≥0)=l.any p:=by
 by_cases ha:l.any p=true
 ·obtain⟨j,hj,h1,h2⟩:=p8 (l:=l) (p:=fun m=>p m=true) (by simpa using ha);refine⟨(j:Nat),?_,by rw[ha];simp⟩;refine cr (by simp[cD,AV.cl,bF,hcap]) rfl ?_;refine ak (af:=GW) false rfl (Nat.le_of_ble_eq_true rfl) ?_;generalize hQ:(fun(v:AV) (_:Heap)=>v=.int .i64 (j:Nat))=Q;conv=>whnf
  refine gX 5 [(0,.fz k (eP l)),(1,.func (.func F) [] aM),(7,.int .i64 (eP l).length),(8,.int .i64 ((0:Nat):Int))] (by repeat' (first|exact trivial|refine cC rfl (by omega) ?_|refine bZ rfl (by omega) ?_|refine bC rfl (by omega) ?_|refine aV rfl (by first|rfl|simp[cD,AV.cl,bS,bF,hcap]) ?_|refine aV (aK (by omega)) rfl ?_)) ?_;refine fM 5 j (fun _=>True) (fun i=>[(0,.fz k (eP l)),(1,.func (.func F) [] aM),(7,.int .i64 (eP l).length),(8,.int .i64 (i:Nat))]) ?_ ?_ trivial
  ·intro i hi _;conv=>whnf
   refine br (fun hc=>?_) (fun hc=>?_)<;>(try rw[hc])<;>(conv=>whnf)
   ·refine⟨_,kD (by omega),?_⟩;conv=>whnf
    refine aR (hp _ (List.getElem_mem _)) ?_;conv=>whnf
    refine br (fun hc=>?_) (fun hc=>?_)<;>(try rw[hc])<;>(conv=>whnf)
    ·exact absurd hc (h2 i (by omega) hi)
    ·refine⟨trivial,⟨_,rfl,.cl (by simp[AV.cl,bF])⟩,⟨_,rfl,.cl (by simp[AV.cl,cD,hcap])⟩,⟨_,rfl,.cl rfl⟩,⟨_,aK (by omega),.cl rfl⟩,trivial⟩
   ·exfalso;have:=of_decide_eq_false hc;rw[bt] at this;omega
  ·intro _;conv=>whnf
   refine br (fun hc=>?_) (fun hc=>?_)<;>(try rw[hc])<;>(conv=>whnf)
   ·refine⟨_,kD hj,?_⟩;conv=>whnf
    refine aR (hp _ (List.getElem_mem _)) ?_;conv=>whnf
    refine br (fun hc=>?_) (fun hc=>?_)<;>(try rw[hc])<;>(conv=>whnf)
    ·subst hQ;rfl
    ·rw[h1] at hc;simp at hc
   ·exfalso;have:=of_decide_eq_false hc;rw[bt] at this;omega
 ·have hn:∀m,m∈l→p m=false:=by
   intro m hm;rw[Bool.eq_false_iff];intro h;exact ha (List.any_eq_true.2 ⟨m,hm,h⟩)
  refine⟨-1,?_,by rw[Bool.eq_false_iff.2 ha];decide⟩;refine cr (by simp[cD,AV.cl,bF,hcap]) rfl ?_;refine ak (af:=GW) false rfl (Nat.le_of_ble_eq_true rfl) ?_;generalize hQ:(fun(v:AV) (_:Heap)=>v=.int .i64 (-1))=Q;conv=>whnf
  refine gX 5 [(0,.fz k (eP l)),(1,.func (.func F) [] aM),(7,.int .i64 (eP l).length),(8,.int .i64 ((0:Nat):Int))] (by repeat' (first|exact trivial|refine cC rfl (by omega) ?_|refine bZ rfl (by omega) ?_|refine bC rfl (by omega) ?_|refine aV rfl (by first|rfl|simp[cD,AV.cl,bS,bF,hcap]) ?_|refine aV (aK (by omega)) rfl ?_)) ?_;refine fM 5 l.length (fun _=>True) (fun i=>[(0,.fz k (eP l)),(1,.func (.func F) [] aM),(7,.int .i64 (eP l).length),(8,.int .i64 (i:Nat))]) ?_ ?_ trivial
  ·intro i hi _;conv=>whnf
   refine br (fun hc=>?_) (fun hc=>?_)<;>(try rw[hc])<;>(conv=>whnf)
   ·refine⟨_,kD (by omega),?_⟩;conv=>whnf
    refine aR (hp _ (List.getElem_mem _)) ?_;conv=>whnf
    refine br (fun hc=>?_) (fun hc=>?_)<;>(try rw[hc])<;>(conv=>whnf)
    ·rw[hn _ (List.getElem_mem hi)] at hc;simp at hc
    ·refine⟨trivial,⟨_,rfl,.cl (by simp[AV.cl,bF])⟩,⟨_,rfl,.cl (by simp[AV.cl,cD,hcap])⟩,⟨_,rfl,.cl rfl⟩,⟨_,aK (by omega),.cl rfl⟩,trivial⟩
   ·exfalso;have:=of_decide_eq_false hc;rw[bt] at this;omega
  ·intro _;conv=>whnf
   refine br (fun hc=>?_) (fun hc=>?_)<;>(try rw[hc])<;>(conv=>whnf)
   ·exfalso;have:=of_decide_eq_true hc;rw[bt] at this;omega
   ·subst hQ;rfl
theorem Tt{F:Nat}{aM:List AV}{p:Tk→Bool}(k:Nat)(l:List Tk)(hl:l.length<2^62)(hcap:cD aM=true)(hp:∀m,m∈l→PC fs ms F (tk m::aM) (.bool (p m))):
  PC fs ms 105 [.fz k (eP l),.func (.func F) [] aM] (.bool (l.any p)):=by
 obtain⟨n,c1,c2⟩:=Ru k l hl hcap hp;refine cr (by simp[cD,AV.cl,bF,hcap]) rfl ?_;refine ak (af:=KV) false rfl (Nat.le_of_ble_eq_true rfl) ?_;generalize hQ:(fun(v:AV) (_:Heap)=>v=.bool (l.any p))=Q;conv=>whnf
 refine aR c1 ?_;conv=>whnf
 subst hQ;exact congrArg AV.bool c2
theorem Hh(t:Tk):PC fs ms 106 [tk t] (.bool (!iG t)):=by
 refine cr rfl rfl ?_;refine ak (af:=KW) false rfl (Nat.le_of_ble_eq_true rfl) ?_;generalize hQ:(fun(v:AV) (_:Heap)=>v=.bool (!iG t))=Q;conv=>whnf
 refine aR (UA _) ?_;conv=>whnf
 subst hQ;rfl
theorem Mv(l:List Tk):(l.any fun t=>!iG t)=!l.all iG:=by
 induction l with
 |nil=>rfl
 |cons t l ih=>simp only[List.any_cons,List.all_cons,ih,Bool.not_and]
theorem Tm(k:Nat)(l:List Tk)(hl:l.length<2^62):PC fs ms 42 [.fz k (eP l)] (.bool (cj l)):=by
 refine cr (by simp[cD,AV.cl,bF]) rfl ?_;refine ak (af:=Vr) false rfl (Nat.le_of_ble_eq_true rfl) ?_;generalize hQ:(fun(v:AV) (_:Heap)=>v=.bool (cj l))=Q;conv=>whnf
 refine br (fun hc=>?_) (fun hc=>?_)<;>(try rw[hc])<;>(conv=>whnf)
 ·refine aR (Tt k l hl rfl (fun m _=>Hh m)) ?_;conv=>whnf
  subst hQ;refine congrArg AV.bool ?_;have:=of_decide_eq_true hc;rw[bt] at this;rw[Mv,Bool.not_not,cj,decide_eq_true (by omega),Bool.and_true]
 ·subst hQ;refine congrArg AV.bool ?_;have:=of_decide_eq_false hc;rw[bt] at this;rw[cj,decide_eq_false (by omega),Bool.and_false]
def mA(n:Int):Bool:=decide (n<0)||decide (n>32768)
theorem Cx(n:Int):PC fs ms 41 [.int .i64 n] (.bool (mA n)):=by
 refine cr rfl rfl ?_;refine ak (af:=Vq) false rfl (Nat.le_of_ble_eq_true rfl) ?_;generalize hQ:(fun(v:AV) (_:Heap)=>v=.bool (mA n))=Q;conv=>whnf
 refine br (fun hc=>?_) (fun hc=>?_)<;>(try rw[hc])<;>(conv=>whnf)
 ·subst hQ;simp only[mA,hc,Bool.true_or]
 ·subst hQ;simp only[mA,hc,Bool.false_or]
def dA(l:List Tk)(a:List Int):Int:=if a.any mA=false∧cj l=true∧a.length=l.length then 0 else 2
theorem DX(k k':Nat)(l:List Tk)(a:List Int)(hl:l.length<2^62)(ha:a.length<2^62):PC fs ms 10 [.fz k (eP l),.fz k' (ints a)] (.int .i64 (dA l a)):=by
 refine cr (by simp[cD,AV.cl,bF,bS]) rfl ?_;refine ak (af:=UY) false rfl (Nat.le_of_ble_eq_true rfl) ?_;generalize hQ:(fun(v:AV) (_:Heap)=>v=.int .i64 (dA l a))=Q;conv=>whnf
 refine aR (Ts k' a ha rfl Cx) ?_;conv=>whnf
 refine br (fun hc=>?_) (fun hc=>?_)<;>(try rw[hc])<;>(conv=>whnf)
 ·subst hQ;simp[dA,hc]
 ·refine aR (Tm k l hl) ?_;have h1:=hc;conv=>whnf
  refine br (fun hc=>?_) (fun hc=>?_)<;>(try rw[hc])<;>(conv=>whnf)
  ·subst hQ;simp at hc;simp[dA,hc]
  ·have h2:=hc;refine br (fun hc=>?_) (fun hc=>?_)<;>(try rw[hc])<;>(conv=>whnf)
   ·subst hQ;simp[bI,bt] at hc;rw[dA,if_neg (fun h=>by omega)]
   ·subst hQ;simp[bI,bt] at hc;simp at h2;rw[dA,if_pos ⟨h1,h2,by omega⟩]
end Ir
end Go.Proofs.YtnlcabhfkpafmaaGreat
namespace Go.Proofs.YtnlcabhfkpafmaaGreat
open Go Ads
namespace Ir
end Ir
end Go.Proofs.YtnlcabhfkpafmaaGreat
namespace Go.Proofs.YtnlcabhfkpafmaaGreat
open Go Ads
namespace Ir
theorem A1{l:List Tk}{a:List Int}(h:dA l a=0):a.any mA=false∧cj l=true∧a.length=l.length:=by
 unfold dA at h;split at h
 ·assumption
 ·simp at h
end Ir
end Go.Proofs.YtnlcabhfkpafmaaGreat
namespace Go.Proofs.YtnlcabhfkpafmaaGreat
open Go Ads
namespace Ir
theorem AF{α:Type}{l:List α}{p:α→Bool}{j:Nat}(hj:j<l.length)(hi:(l.take j).any p=false)(h:p l[j]=false):(l.take (j+1)).any p=false:=by
 rw[nu hj,List.any_append,hi];simp[h]
end Ir
end Go.Proofs.YtnlcabhfkpafmaaGreat
namespace Go.Proofs.YtnlcabhfkpafmaaGreat
open Go Ads
namespace Ir
end Ir
end Go.Proofs.YtnlcabhfkpafmaaGreat
namespace Go.Proofs.YtnlcabhfkpafmaaGreat
open Go Ads
namespace Ads
theorem Kn{h:Heap}{b s n cap:Nat}{op wr:Bool}{es:Nat}{cs:List AV}(hg:h.get b=some (.cells cs wr es))(hl:cs.length=n*s):dm s h (.sl b 0 n cap op)=some (n,cs):=by
 have b1:Nat.ble (0+n*s) cs.length=true:=Nat.ble_eq_true_of_le (by omega);show(h.aZ b 0 (n*s)).map _=_;have:h.aZ b 0 (n*s)=some cs:=by
  simp only[Heap.aZ,Heap.row,hg,b1,cond_true,List.drop_zero];rw[←hl,List.take_length]
 rw[this];rfl
theorem AG{h:Heap}{s bytes b m:Nat}{vs cs:List AV}{x:AV}(hg:h.get b=some (.cells vs true s))(hv:vs.length=m*s)(hsrc:dm s h x=some (1,cs))(hf:bA cs=true)(hb:(m+1)*bytes≤140737488355328)(hm:m+1≤140737488355328):
  eV (.append s bytes) [.sl b 0 m m true,x] h=some (.sl h.next 0 (m+1) (m+1) true,(h.del b).new (.cells (vs++cs) true s)):=by
 have b1:Nat.ble (m+1) m=false:=by cases hb:Nat.ble (m+1) m with|false=>rfl|true=>(have:=Nat.le_of_ble_eq_true hb;omega)
 have b2:Nat.ble ((m+1)*bytes) 140737488355328=true:=Nat.ble_eq_true_of_le hb;have b3:Nat.ble (m+1) 9223372036854775807=true:=Nat.ble_eq_true_of_le (by omega);have b4:Nat.ble (0+m*s) vs.length=true:=Nat.ble_eq_true_of_le (by omega);have b5:Nat.beq vs.length (0+m*s)=true:=by rw[hv,Nat.zero_add];exact Nat.beq_refl _
 have oB:h.aZ b 0 (m*s)=some vs:=by
  simp only[Heap.aZ,Heap.row,hg,b4,cond_true,List.drop_zero];rw[←hv,List.take_length]
 simp only[eV,l2,hsrc];show cond (bA cs) _ _=_;rw[hf,cond_true];show cond (Nat.beq 1 0&&Nat.ble m m) _ _=_;rw[show Nat.beq 1 0=false from rfl,Bool.false_and,cond_false,b1,cond_false,b2,b3,Bool.and_self,cond_true,hg,oB];show cond true (cond (true&&Nat.beq vs.length (0+m*s)&&Nat.beq m m&&Nat.beq s s) _ _) _=_;rw[b5,Nat.beq_refl,Nat.beq_refl];rfl
theorem oV{h:Heap}{b c:Nat}(hn:c≠b):(h.del b).get c=h.get c:=by rw[Heap.cL,if_neg hn]
end Ads
namespace Ir
structure Nt where
 a:Int
 k:Int
 p:Int
 t:Int
 n:Int
 e:Int
 s:List UInt8
 deriving DecidableEq
end Ir
end Go.Proofs.YtnlcabhfkpafmaaGreat
namespace Go.Proofs.YtnlcabhfkpafmaaGreat
open Go Ads
namespace Ads
end Ads
namespace Ir
end Ir
end Go.Proofs.YtnlcabhfkpafmaaGreat
namespace Go.Proofs.YtnlcabhfkpafmaaGreat
open Go Ads
namespace Ads
theorem Fr.wk{h h':Heap}{bs cs:List Nat}(f:Fr h h' bs)(hs:∀b∈bs,b∈cs):Fr h h' cs:=⟨f.next,fun c hc hn=>f.keep c hc (fun hb=>hn (hs c hb))⟩
theorem mU{s bytes n:Nat}{h:Heap}{x:AV}{cs:List AV}(hs:dm s h x=some (n,cs))(hf:bA cs=true)(hn:n*bytes≤140737488355328)(hm:n≤140737488355328):
  eV (.append s bytes) [.aL,x] h=some (if n=0 then(.aL,h) else(.sl h.next 0 n n true,h.new (.cells cs true s))):=by
 have b2:Nat.ble (n*bytes) 140737488355328=true:=Nat.ble_eq_true_of_le hn;have b3:Nat.ble n 9223372036854775807=true:=Nat.ble_eq_true_of_le (by omega);simp only[eV,l2,hs];show cond (bA cs) _ _=_;rw[hf,cond_true];cases n with
 |zero=>rfl
 |succ n=>
  rw[show Nat.beq (n+1) 0=false from rfl,cond_false,b2,b3,Bool.and_self,cond_true,if_neg (by omega)]
theorem FH{x:AV}{l:List AV}:bA (x::l)=(x.flat&&bA l):=by
 show cond x.flat (bA l) false=_;cases x.flat<;>rfl
def GR(s:Nat)(lo:Nat)(h:Heap)(v:AV)(l:List AV):Prop:=(l=[]∧v=.aL)∨l≠[]∧∃b,lo≤b∧b<h.next∧v=.sl b 0 l.length l.length true∧h.get b=some (.cells (aa l) true s)
theorem GR.keep{s lo:Nat}{h h':Heap}{v:AV}{M:List AV}{T:List Nat}(hr:GR s lo h v M)(fr:Fr h h' T)(hT:∀c∈T,c<lo):GR s lo h' v M:=by
 rcases hr with hr|⟨FQ,b,h1,h2,h3,h4⟩
 ·exact .inl hr
 ·exact .inr ⟨FQ,b,h1,Nat.lt_of_lt_of_le h2 fr.next,h3,by rw[fr.keep b h2 (fun hm=>by have:=hT b hm;omega)];exact h4⟩
theorem GR.len{s lo:Nat}{h:Heap}{v:AV}{M:List AV}(hr:GR s lo h v M):pV .bL [v]=some (.int .i64 ((M.length:Nat):Int)):=by
 rcases hr with⟨rfl,rfl⟩|⟨FQ,b,h1,h2,rfl,h4⟩
 ·rfl
 ·rfl
theorem GR.app{s bytes lo:Nat}{h:Heap}{v:AV}{M:List AV}(hr:GR s lo h v M)(hlo:lo≤h.next){x:AV}(hx:x.cells.length=s)(hf:bA x.cells=true)(hs:aO s M=true)(hl:(M.length+1)*bytes≤140737488355328)(hm:M.length+1≤140737488355328):
  ∃v' g',eV (.append s bytes) [v,.sl h.next 0 1 1 false] (h.new (.cells x.cells true 0))=some (v',g')∧GR s lo g' v' (M++[x])∧h.next≤g'.next∧∀c,c<lo→g'.get c=h.get c:=by
 have hsrc:dm s (h.new (.cells x.cells true 0)) (.sl h.next 0 1 1 false)=some (1,x.cells):=Kn aj (by omega);have GL:aa (M++[x])=aa M++x.cells:=by rw[lK];simp[aa]
 rcases hr with⟨h1,h2⟩|⟨FQ,b,h1,h2,h3,h4⟩
 ·subst h1 h2;have:=mU (bytes:=bytes) hsrc hf (by simpa using hl) (by omega);rw[if_neg (by omega)] at this;refine⟨_,_,this,.inr ⟨by simp,h.next+1,by omega,Nat.lt_succ_self _,rfl,?_⟩,by show h.next≤h.next+1+1;omega,fun c hc=>?_⟩
  ·rw[GL];exact aj (h:=h.new (.cells x.cells true 0))
  ·exact(aA (h:=h.new (.cells x.cells true 0)) (show c<h.next+1 by omega)).trans (aA (by omega))
 ·subst h3;have hg:(h.new (.cells x.cells true 0)).get b=some (.cells (aa M) true s):=by rw[aA h2];exact h4
  refine⟨_,_,AG hg (jk hs) hsrc hf hl hm,.inr ⟨by simp,h.next+1,by omega,Nat.lt_succ_self _,by rw[List.length_append];rfl,?_⟩,by show h.next≤h.next+1+1;omega,fun c hc=>?_⟩
  ·have:=aj (h:=(h.new (.cells x.cells true 0)).del b) (x:=.cells (aa M++x.cells) true s);rw[show((h.new (.cells x.cells true 0)).del b).next=h.next+1 from rfl] at this;rw[this,GL]
  ·have hne:c≠b:=by omega
   exact(aA (h:=(h.new (.cells x.cells true 0)).del b) (show c<h.next+1 by omega)).trans ((oV hne).trans (aA (by omega)))
theorem GR.copy{s bytes lo k:Nat}{h:Heap}{M:List AV}(hlo:lo≤h.next)(hs:aO s M=true)(hf:bA (aa M)=true)(hl:M.length*bytes≤140737488355328)(hm:M.length≤140737488355328):
  ∃v' g',eV (.append s bytes) [.aL,.fz k M] h=some (v',g')∧GR s lo g' v' M∧Fr h g' []:=by
 have:=mU (bytes:=bytes) (rN (k:=k) (h:=h) hs) hf hl hm;by_cases hz:M.length=0
 ·rw[if_pos hz] at this;exact⟨_,_,this,.inl ⟨List.eq_nil_of_length_eq_zero hz,rfl⟩,Fr.refl _ _⟩
 ·rw[if_neg hz] at this;exact⟨_,_,this,.inr ⟨fun h=>hz (by rw[h];rfl),h.next,hlo,Nat.lt_succ_self _,rfl,aj⟩,(Fr.refl _ _).new⟩
end Ads
end Go.Proofs.YtnlcabhfkpafmaaGreat
namespace Go.Proofs.YtnlcabhfkpafmaaGreat
open Go Ads
namespace Ads
structure At(h:Heap)(B:Nat→Nat)(G:Nat→Option dD):Prop where
 get:∀r x,G r=some x→h.get (B r)=some x∧B r<h.next
 inj:∀r s x y,G r=some x→G s=some y→B r=B s→r=s
structure FrP(h h':Heap)(P:Nat→Prop):Prop where
 next:h.next≤h'.next
 keep:∀c,c<h.next→¬P c→h'.get c=h.get c
section
variable {h h':Heap} {B:Nat→Nat} {G:Nat→Option dD} {r:Nat}
end
end Ads
end Go.Proofs.YtnlcabhfkpafmaaGreat
