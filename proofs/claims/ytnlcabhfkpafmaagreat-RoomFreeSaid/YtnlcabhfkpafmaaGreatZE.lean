/-
  Room: the stack of what is locked: what it answers, looked at as plain values. Room: the stack, looked at: whether a task may ask, the ceiling, who locked last, what is locked. Room: the stack: whether something is locked; the place of a task's last entry. Room: the stack: the place of a task's last entry. Room: the stack in a heap; Lock. Room: the stack: Unlock, Drop, New. Room: the stack: what Drop leaves, in plain Lean. Room: new stacks. Room: its record; whether there is a task. Room: a room in a heap; its parts lie apart, since each block has a colour.
-/
import Derived.Test.YtnlcabhfkpafmaaGreatZD
import Derived.Test.YtnlcabhfkpafmaaGreatZC
set_option maxRecDepth 100000
set_option linter.unusedSimpArgs false
set_option linter.unusedVariables false
namespace Go.Proofs.YtnlcabhfkpafmaaGreat
open Go Ads
namespace Ir
abbrev En:=Int×Int
def en(x:En):AV:=.agg [.int .i64 x.1,.int .i64 x.2]
def ir(L:List En):List AV:=L.map en
theorem fR(L:List En):(ir L).length=L.length:=List.length_map ..
theorem dX(L:List En):cw (ir L)=true:=qp (enc:=en) (fun _=>rfl) L
theorem w7(L:List En):aR 2 (ir L)=true:=gO (enc:=en) (fun _=>rfl) L
theorem mR{L:List En}{j k:Nat}(hj:j<L.length):pV (.aG 2) [.fz k (ir L),.int .i64 ((j:Nat):Int)]=some (.fp (en L[j]).cells 0):=vk (enc:=en) hj rfl
def stk(k k':Nat)(T:List Tk)(L:List En):AV:=.fp [.fz k (ey T),.fz k' (ir L),.bool true] 0
def VN(k k':Nat)(T:List Tk)(L:List En):AV:=.fp [.fz k (ey T),.fz k' (ir L)] 0
theorem nU(k k':Nat)(T:List Tk)(L:List En):(stk k k' T L).cl=true:=by simp[stk,AV.cl,cw,bW,dX]
theorem W7(k k':Nat)(T:List Tk)(L:List En):(VN k k' T L).cl=true:=by simp[VN,AV.cl,cw,bW,dX]
def uV(t:Int):AV:=.func (.func 150) [] [.fp [.int .i64 t] 0]
theorem VE(t:Int):PC fs ms 109 [.int .i64 t] (uV t):=by
 refine cG rfl rfl ?_;refine dz (af:=LL) rfl (Nat.le_of_ble_eq_true rfl) ?_;generalize hQ:(fun(v:AV) (_:Heap)=>v=uV t)=Q;conv=>whnf
 refine aM false ?_;conv=>whnf
 refine sj [0] (i:=1) (v':=.fp [.int .i64 t] 0) rfl (.ptr' (by simp) rfl (.clean rfl)) ?_;refine aA (z:=false) ?_;conv=>whnf
 subst hQ;rfl
theorem Ku(t:Int)(x:En):PC fs ms 150 [en x,.fp [.int .i64 t] 0] (.bool (x.1==t)):=by
 refine cG rfl rfl ?_;refine ak (af:=Mg) false rfl (Nat.le_of_ble_eq_true rfl) ?_;generalize hQ:(fun(v:AV) (_:Heap)=>v=.bool (x.1==t))=Q;conv=>whnf
 subst hQ;rfl
def aU(L:List En)(t:Int):List Int:=(L.filter fun x=>x.1==t).map (·.2)
theorem Gz{L:List En}{j:Nat}(h:j<L.length)(t:Int):aU (L.take (j+1)) t=if L[j].1==t then aU (L.take j) t++[L[j].2] else aU (L.take j) t:=by
 rw[List.take_succ_eq_append_getElem h,aU,List.filter_append,List.map_append];cases hc:(L[j].1==t)<;>simp[hc,aU]
theorem Bw(L:List En)(t:Int):(aU L t).length≤L.length:=by
 rw[aU,List.length_map];exact List.length_filter_le ..
theorem Di(k k':Nat)(T:List Tk)(L:List En)(hL:L.length≤1000)(t:Int):VD fs ms 48 [stk k k' T L,.int .i64 t] ⟨0,.nil⟩ (CG 1 (ints (aU L t))):=by
 refine ak (af:=Ww) false rfl (Nat.le_of_ble_eq_true rfl) ?_;generalize hQ:CG 1 (ints (aU L t))=Q;conv=>whnf
 refine aO (VE t) ?_;conv=>whnf
 refine iZ 5 [(4,.aH),(5,uV t),(15,.fz k' (ir L)),(16,.int .i64 (ir L).length),(17,.int .i64 ((0:Nat):Int))] (by repeat' (first|exact trivial|refine cW rfl (by omega) ?_|refine cF rfl (by omega) ?_|refine bQ rfl (by omega) ?_|refine bl rfl (by first|rfl|simp[cw,AV.cl,bS,dX]) ?_|refine bl (aL (by omega)) rfl ?_)) ?_;refine Bl 0 5 L.length (fun _=>True) (fun j=>[(4,Bs (aU (L.take j) t).length),(5,uV t),(15,.fz k' (ir L)),(16,.int .i64 (ir L).length),(17,.int .i64 ((j:Nat):Int))]) (fun j=>qZ (aU (L.take j) t) (aU (L.take j) t).length) ?_ ?_ trivial
 ·intro j hj _;have hn:=Gz hj t;have hlen:=Bw (L.take j) t;rw[List.length_take] at hlen;generalize aU (L.take j) t=M at*;cases M with
  |nil=>
   conv=>whnf
   refine qO (by rw[fR];simp;omega) (fun hc=>?_)
   (try rw[hc])
   conv=>whnf
   refine⟨_,mR hj,?_⟩;conv=>whnf
   refine aO (Ku t L[j]) ?_;conv=>whnf
   refine br (fun hc=>?_) (fun hc=>?_)<;>(try rw[hc])<;>(conv=>whnf)
   ·rw[hc,if_pos rfl] at hn;rw[hn];refine⟨_,_,Ik rfl,?_⟩;conv=>whnf
    refine⟨trivial,fun b=>2,vS (H:=qZ [L[j].2] 1) (Dk _) _ (by repeat' (first|exact trivial|refine cW rfl (by omega) ?_|refine cF rfl (by omega) ?_|refine bQ rfl (by omega) ?_|refine bl rfl (by first|rfl|simp[cw,AV.cl,bS,dX]) ?_|refine bl (aL (by omega)) rfl ?_)) ⟨by omega,⟨_,rfl,um rfl⟩,trivial⟩ (by intro b c hb hc _;simp at hb hc;omega) (by intro b hb;omega) (by omega)⟩
   ·rw[hc,if_neg (by simp)] at hn;rw[hn];refine⟨trivial,fun b=>2,vS (H:=qZ [] 0) (n:=0) (m:=[]) rfl _ (by repeat' (first|exact trivial|refine cW rfl (by omega) ?_|refine cF rfl (by omega) ?_|refine bQ rfl (by omega) ?_|refine bl rfl (by first|rfl|simp[cw,AV.cl,bS,dX]) ?_|refine bl (aL (by omega)) rfl ?_)) trivial (by intro b c hb;simp at hb) (by intro b hb;omega) (by omega)⟩
  |cons y M=>
   have hT:(y::M).take (M.length+1)=y::M:=List.take_of_length_le (by simp);show AF fs ms 0 false false _ _ ⟨1,.node .nil (some (.cells (ints ((y::M).take (M.length+1))) true 1)) .nil⟩ _;rw[hT];conv=>whnf
   refine qO (by rw[fR];simp;omega) (fun hc=>?_)
   (try rw[hc])
   conv=>whnf
   refine⟨_,mR hj,?_⟩;conv=>whnf
   refine aO (Ku t L[j]) ?_;conv=>whnf
   refine br (fun hc=>?_) (fun hc=>?_)<;>(try rw[hc])<;>(conv=>whnf)
   ·rw[hc,if_pos rfl] at hn;rw[hn,show((y::M)++[L[j].2]).length=M.length+1+1 by simp];have hT2:((y::M)++[L[j].2]).take (M.length+1+1)=(y::M)++[L[j].2]:=List.take_of_length_le (by simp);refine⟨_,_,Il (vs:=ints (y::M)) rfl (by simp[ints]) (by simp at hlen;omega) rfl,?_⟩;conv=>whnf
    refine⟨trivial,fun b=>3,vS (H:=qZ ((y::M)++[L[j].2]) (M.length+1+1)) (Dk _) _ (by repeat' (first|exact trivial|refine cW rfl (by omega) ?_|refine cF rfl (by omega) ?_|refine bQ rfl (by omega) ?_|refine bl rfl (by first|rfl|simp[cw,AV.cl,bS,dX]) ?_|refine bl (aL (by omega)) rfl ?_)) ⟨by omega,⟨_,rfl,um (by rw[hT2];simp[ints])⟩,trivial⟩ (by intro b c hb hc _;simp at hb hc;omega) (by intro b hb;omega) (by omega)⟩
   ·rw[hc,if_neg (by simp)] at hn;rw[hn];refine⟨trivial,fun b=>0,vS (H:=qZ (y::M) (M.length+1)) (Dk _) _ (by repeat' (first|exact trivial|refine cW rfl (by omega) ?_|refine cF rfl (by omega) ?_|refine bQ rfl (by omega) ?_|refine bl rfl (by first|rfl|simp[cw,AV.cl,bS,dX]) ?_|refine bl (aL (by omega)) rfl ?_)) ⟨by omega,⟨_,rfl,um (by rw[hT])⟩,trivial⟩ (by intro b c hb hc _;simp at hb hc;omega) (by intro b hb;omega) (by omega)⟩
 ·intro _;rw[List.take_length];have jF:Q (Bs (aU L t).length) (qZ (aU L t) (aU L t).length):=by
   subst hQ;cases hM:aU L t with
   |nil=>exact .inl ⟨rfl,rfl⟩
   |cons y M=>
    refine .inr ⟨0,by rw[cm];rfl,?_⟩;show some (ck.cells (ints ((y::M).take (M.length+1))) true 1)=_;rw[lF,show(y::M).take (M.length+1)=y::M from List.take_of_length_le (by simp)]
  generalize qZ (aU L t) (aU L t).length=G at*;generalize Bs (aU L t).length=V at*;conv=>whnf
  refine qm (by rw[fR];simp) (fun hc=>?_)
  (try rw[hc])
  conv=>whnf
  exact jF
def eR(T:List Tk)(t:Int):Int:=if decide (t<0)||decide (t≥(T.length:Nat)) then 9 else 0
theorem Eo(k k':Nat)(T:List Tk)(L:List En)(t:Int):PC fs ms 135 [stk k k' T L,.int .i64 t] (.int .i64 (eR T t)):=by
 refine cG (by simp[cw,AV.cl,nU]) rfl ?_;refine ak (af:=LR) false rfl (Nat.le_of_ble_eq_true rfl) ?_;generalize hQ:(fun(v:AV) (_:Heap)=>v=.int .i64 (eR T t))=Q;conv=>whnf
 cases h1:decide (t<0) with
 |true=>
  conv=>whnf
  subst hQ;simp[eR,h1]
 |false=>
  conv=>whnf
  rw[bB];refine br (fun hc=>?_) (fun hc=>?_)<;>(try rw[hc])<;>(conv=>whnf)
  ·subst hQ;simp only[eR,h1,hc];rfl
  ·subst hQ;simp only[eR,h1,hc];rfl
def jQ(T:List Tk)(L:List En):Int:=L.foldl (fun n x=>max n (ceil T x.2)) 0
theorem CQ{T:List Tk}{L:List En}{j:Nat}(h:j<L.length):jQ T (L.take (j+1))=max (jQ T (L.take j)) (ceil T L[j].2):=by
 rw[List.take_succ_eq_append_getElem h,jQ,List.foldl_append];rfl
theorem OL(k k':Nat)(T:List Tk)(L:List En)(hT:T.length<2^62)(hL:L.length≤1000):PC fs ms 53 [stk k k' T L] (.int .i64 (jQ T L)):=by
 refine cG (by simp[cw,AV.cl,nU]) rfl ?_;refine ak (af:=WC) false rfl (Nat.le_of_ble_eq_true rfl) ?_;generalize hQ:(fun(v:AV) (_:Heap)=>v=.int .i64 (jQ T L))=Q;conv=>whnf
 refine iZ 5 [(0,stk k k' T L),(2,.int .i64 (jQ T (L.take 0))),(10,.fz k' (ir L)),(11,.int .i64 (ir L).length),(12,.int .i64 ((0:Nat):Int))] (by repeat' (first|exact trivial|refine cW rfl (by omega) ?_|refine cF rfl (by omega) ?_|refine bQ rfl (by omega) ?_|refine bl rfl (by first|rfl|simp[cw,AV.cl,bS,dX,nU]) ?_|refine bl (aL (by omega)) rfl ?_)) ?_;refine iT 5 L.length (fun _=>True) (fun j=>[(0,stk k k' T L),(2,.int .i64 (jQ T (L.take j))),(10,.fz k' (ir L)),(11,.int .i64 (ir L).length),(12,.int .i64 ((j:Nat):Int))]) ?_ ?_ trivial
 ·intro j hj _;have hn:=CQ (T:=T) hj;conv=>whnf
  refine qO (by rw[fR];simp;omega) (fun hc=>?_)
  (try rw[hc])
  conv=>whnf
  refine⟨_,mR hj,?_⟩;conv=>whnf
  refine aO (Qf k T hT L[j].2) ?_;conv=>whnf
  refine⟨trivial,⟨_,rfl,.cl (nU ..)⟩,⟨_,Ff hn.symm,.cl rfl⟩,⟨_,rfl,.cl (by simp[AV.cl,dX])⟩,⟨_,rfl,.cl rfl⟩,⟨_,aL (by omega),.cl rfl⟩,trivial⟩
 ·intro _;conv=>whnf
  refine qm (by rw[fR];simp) (fun hc=>?_)
  (try rw[hc])
  conv=>whnf
  subst hQ;rw[List.take_length]
def xm(L:List En):Int×Bool:=match L.getLast? with|some x=>(x.1,true)|none=>(0,false)
theorem VU(k k':Nat)(T:List Tk)(L:List En)(hL:L.length≤1000):PC fs ms 54 [stk k k' T L] (.cD [.int .i64 (xm L).1,.bool (xm L).2]):=by
 refine cG (by simp[cw,AV.cl,nU]) rfl ?_;refine ak (af:=WD) false rfl (Nat.le_of_ble_eq_true rfl) ?_;generalize hQ:(fun(v:AV) (_:Heap)=>v=.cD [.int .i64 (xm L).1,.bool (xm L).2])=Q;conv=>whnf
 refine br (fun hc=>?_) (fun hc=>?_)<;>(try rw[hc])<;>(conv=>whnf)
 ·have:L=[]:=by have:=eq_of_beq hc;rw[fR] at this;exact List.length_eq_zero_iff.1 (by omega)
  subst this;subst hQ;rfl
 ·have hne:0<L.length:=by
   have h0:=of_decide_eq_false hc;rw[fR] at h0;omega
  have hl:L.length-1<L.length:=by omega
  have hi:IntKind.i64.wrap ((((ir L).length:Nat):Int)-1)=((L.length-1:Nat):Int):=by rw[fR,IntWalk.i64_in _ (by omega)];omega
  have hx:=mR (k:=k') hl;rw[←hi] at hx;refine⟨_,hx,?_⟩;conv=>whnf
  subst hQ;have:L.getLast?=some L[L.length-1]:=by rw[List.getLast?_eq_getElem?,List.getElem?_eq_getElem hl]
  simp only[xm,this]
theorem NV{F:Nat}{aF:List AV}{p:En→Bool}(k:Nat)(l:List En)(hl:l.length<2^62)(hcap:cw aF=true)(hp:∀m,m∈l→PC fs ms F (en m::aF) (.bool (p m))):
  ∃n:Int,PC fs ms 164 [.fz k (ir l),.func (.func F) [] aF] (.int .i64 n)∧decide (n≥0)=l.any p:=by
 by_cases ha:l.any p=true
 ·obtain⟨j,hj,h1,h2⟩:=qz (l:=l) (p:=fun m=>p m=true) (by simpa using ha);refine⟨(j:Nat),?_,by rw[ha];simp⟩;refine cG (by simp[cw,AV.cl,dX,hcap]) rfl ?_;refine ak (af:=HP) false rfl (Nat.le_of_ble_eq_true rfl) ?_;generalize hQ:(fun(v:AV) (_:Heap)=>v=.int .i64 (j:Nat))=Q;conv=>whnf
  refine iZ 5 [(0,.fz k (ir l)),(1,.func (.func F) [] aF),(7,.int .i64 (ir l).length),(8,.int .i64 ((0:Nat):Int))] (by repeat' (first|exact trivial|refine cW rfl (by omega) ?_|refine cF rfl (by omega) ?_|refine bQ rfl (by omega) ?_|refine bl rfl (by first|rfl|simp[cw,AV.cl,bS,dX,hcap]) ?_|refine bl (aL (by omega)) rfl ?_)) ?_;refine iT 5 j (fun _=>True) (fun i=>[(0,.fz k (ir l)),(1,.func (.func F) [] aF),(7,.int .i64 (ir l).length),(8,.int .i64 (i:Nat))]) ?_ ?_ trivial
  ·intro i hi _;conv=>whnf
   refine br (fun hc=>?_) (fun hc=>?_)<;>(try rw[hc])<;>(conv=>whnf)
   ·refine⟨_,mR (by omega),?_⟩;conv=>whnf
    refine aO (hp _ (List.getElem_mem _)) ?_;conv=>whnf
    refine br (fun hc=>?_) (fun hc=>?_)<;>(try rw[hc])<;>(conv=>whnf)
    ·exact absurd hc (h2 i (by omega) hi)
    ·refine⟨trivial,⟨_,rfl,.cl (by simp[AV.cl,dX])⟩,⟨_,rfl,.cl (by simp[AV.cl,cw,hcap])⟩,⟨_,rfl,.cl rfl⟩,⟨_,aL (by omega),.cl rfl⟩,trivial⟩
   ·exfalso;have:=of_decide_eq_false hc;rw[fR] at this;omega
  ·intro _;conv=>whnf
   refine br (fun hc=>?_) (fun hc=>?_)<;>(try rw[hc])<;>(conv=>whnf)
   ·refine⟨_,mR hj,?_⟩;conv=>whnf
    refine aO (hp _ (List.getElem_mem _)) ?_;conv=>whnf
    refine br (fun hc=>?_) (fun hc=>?_)<;>(try rw[hc])<;>(conv=>whnf)
    ·subst hQ;rfl
    ·rw[h1] at hc;simp at hc
   ·exfalso;have:=of_decide_eq_false hc;rw[fR] at this;omega
 ·have hn:∀m,m∈l→p m=false:=by
   intro m hm;rw[Bool.eq_false_iff];intro h;exact ha (List.any_eq_true.2 ⟨m,hm,h⟩)
  refine⟨-1,?_,by rw[Bool.eq_false_iff.2 ha];decide⟩;refine cG (by simp[cw,AV.cl,dX,hcap]) rfl ?_;refine ak (af:=HP) false rfl (Nat.le_of_ble_eq_true rfl) ?_;generalize hQ:(fun(v:AV) (_:Heap)=>v=.int .i64 (-1))=Q;conv=>whnf
  refine iZ 5 [(0,.fz k (ir l)),(1,.func (.func F) [] aF),(7,.int .i64 (ir l).length),(8,.int .i64 ((0:Nat):Int))] (by repeat' (first|exact trivial|refine cW rfl (by omega) ?_|refine cF rfl (by omega) ?_|refine bQ rfl (by omega) ?_|refine bl rfl (by first|rfl|simp[cw,AV.cl,bS,dX,hcap]) ?_|refine bl (aL (by omega)) rfl ?_)) ?_;refine iT 5 l.length (fun _=>True) (fun i=>[(0,.fz k (ir l)),(1,.func (.func F) [] aF),(7,.int .i64 (ir l).length),(8,.int .i64 (i:Nat))]) ?_ ?_ trivial
  ·intro i hi _;conv=>whnf
   refine br (fun hc=>?_) (fun hc=>?_)<;>(try rw[hc])<;>(conv=>whnf)
   ·refine⟨_,mR (by omega),?_⟩;conv=>whnf
    refine aO (hp _ (List.getElem_mem _)) ?_;conv=>whnf
    refine br (fun hc=>?_) (fun hc=>?_)<;>(try rw[hc])<;>(conv=>whnf)
    ·rw[hn _ (List.getElem_mem hi)] at hc;simp at hc
    ·refine⟨trivial,⟨_,rfl,.cl (by simp[AV.cl,dX])⟩,⟨_,rfl,.cl (by simp[AV.cl,cw,hcap])⟩,⟨_,rfl,.cl rfl⟩,⟨_,aL (by omega),.cl rfl⟩,trivial⟩
   ·exfalso;have:=of_decide_eq_false hc;rw[fR] at this;omega
  ·intro _;conv=>whnf
   refine br (fun hc=>?_) (fun hc=>?_)<;>(try rw[hc])<;>(conv=>whnf)
   ·exfalso;have:=of_decide_eq_true hc;rw[fR] at this;omega
   ·subst hQ;rfl
theorem Qg{F:Nat}{aF:List AV}{p:En→Bool}(k:Nat)(l:List En)(hl:l.length<2^62)(hcap:cw aF=true)(hp:∀m,m∈l→PC fs ms F (en m::aF) (.bool (p m))):
  PC fs ms 138 [.fz k (ir l),.func (.func F) [] aF] (.bool (l.any p)):=by
 obtain⟨n,c1,c2⟩:=NV k l hl hcap hp;refine cG (by simp[cw,AV.cl,dX,hcap]) rfl ?_;refine ak (af:=LV) false rfl (Nat.le_of_ble_eq_true rfl) ?_;generalize hQ:(fun(v:AV) (_:Heap)=>v=.bool (l.any p))=Q;conv=>whnf
 refine aO c1 ?_;conv=>whnf
 subst hQ;exact congrArg AV.bool c2
theorem N8(r:Int)(x:En):PC fs ms 136 [en x,.fp [.int .i64 r] 0] (.bool (x.2==r)):=by
 refine cG rfl rfl ?_;refine ak (af:=LS) false rfl (Nat.le_of_ble_eq_true rfl) ?_;generalize hQ:(fun(v:AV) (_:Heap)=>v=.bool (x.2==r))=Q;conv=>whnf
 subst hQ;rfl
theorem Qb(k:Nat)(L:List En):PC fs ms 165 [.fz k (ir L)] (.func (.func 180) [] [.fp [.fz k (ir L)] 0]):=by
 refine cG (by simp[cw,AV.cl,dX]) (by simp[cw,AV.cl,dX]) ?_;refine dz (af:=Mn) rfl (Nat.le_of_ble_eq_true rfl) ?_;generalize hQ:(fun(v:AV) (_:Heap)=>v=.func (.func 180) [] [.fp [.fz k (ir L)] 0])=Q;conv=>whnf
 refine aM false ?_;conv=>whnf
 refine sj [0] (i:=1) (v':=.fp [.fz k (ir L)] 0) rfl (.ptr' (by simp) rfl (.clean (l:=[.fz k (ir L)]) (by simp[cw,AV.cl,dX]))) ?_;refine aA (z:=false) ?_;conv=>whnf
 subst hQ;rfl
theorem KL{e:Env}{h:Heap}{a b o es:Nat}{wr:Bool}{vs:List AV}{w:AV}(ha:Tr.get e a=some (.ptr b o))(hg:h.get b=some (.cells vs wr es))(hv:vs[o]?=some w):eH e h [.cell a 1 false]=some [w]:=by
 have:h.bY b o=some w:=by simp only[Heap.bY,Heap.row,hg,hv]
 simp only[eH,oD,ha,cond_false,this]
theorem Hy{B:Nat}{g:bE}{ps:List Nat}{a b:AC}{e:Env}{h:Heap}{f:Nat}{first aF:List AV}{Q:AX→Env→Heap→Prop}(L:Nat)(hL:h.next=L)(hao:dP e [g]=true)(yL:Env.ev e g=.func (.func f) first aF)
  (hw:VD fs ms f (first++(.yield L::aF)) (h.new (.loop 0 none e ps a b)) fun _ h2=>∃x st,h2.get L=some (.loop st (dB x) e ps a b)∧st≠1∧(∀v,x≠.panic v)∧Q x e (h2.set L (.loop 3 (dB x) e ps a b))):
  VC fs ms B false (.rangeFunc g ps a b) e h Q:=by
 subst hL;exact Lb hao yL hw
def me(L:List En)(t:Int):Nat→Int
 |0=>-1
 |n+1=>if(match L[n]? with|some x=>x.1==t|none=>false) then(n:Nat) else me L t n
def ej(L:List En)(t:Int):Int:=me L t L.length
theorem BW{L:List En}{t:Int}:∀n,n≤L.length→(∀i (h:i<L.length),n≤i→(L[i].1==t)=false)→ej L t=me L t n:=by
 intro n hn hno;have:∀r,r+n=L.length→me L t L.length=me L t n:=by
  intro r;induction r generalizing n with
  |zero=>intro h;rw[show n=L.length by omega]
  |succ r ih=>
   intro h;rw[ih (n+1) (by omega) (fun i h1 h2=>hno i h1 (by omega)) (by omega),me,List.getElem?_eq_getElem (by omega)];have:=hno n (by omega) (Nat.le_refl _);simp only[this];rfl
 exact this (L.length-n) (by omega)
def q9(F:AV):Env:=ek 5 [(4,.ptr 0 0),(5,.ptr 1 0),(14,F)]
def ri(F:AV)(t x:Int):Heap:=⟨3,.node (.node .nil (some (.cells [uV t] true 0)) .nil) (some (.cells [.int .i64 x] true 0)) (.node .nil (some (.loop 0 none (q9 F) [15,16] aY aZ)) .nil)⟩
theorem BU(F:AV)(t x:Int):ri F t x=hk 3 [(0,.cells [.int .i64 x] true 0),(1,.cells [uV t] true 0),(2,.loop 0 none (q9 F) [15,16] aY aZ)]:=BF _ _ _
theorem GO(F:AV)(t:Int):(⟨2,.node (.node .nil (some (.cells [uV t] true 0)) .nil) (some (.cells [.int .i64 0] true 0)) .nil⟩:Heap).new (.loop 0 none (q9 F) [15,16] aY aZ)=ri F t 0:=by kernel_rfl
theorem GN(F:AV)(t x:Int):(ri F t x).get 2=some (.loop 0 none (q9 F) [15,16] aY aZ):=by kernel_rfl
theorem GP(F:AV)(t x:Int)(z:ck):(ri F t x).set 2 z=⟨3,.node (.node .nil (some (.cells [uV t] true 0)) .nil) (some (.cells [.int .i64 x] true 0)) (.node .nil (some z) .nil)⟩:=by kernel_rfl
theorem N3(k:Nat)(L:List En)(hL:L.length≤1000)(t:Int){F:AV}(hF:F.cl=true):VD fs ms 180 [.yield 2,.fp [.fz k (ir L)] 0] (ri F t 0) (fun _ h2=>(ej L t=-1∧h2=ri F t 0)∨
  ∃i:Nat,ej L t=i∧h2.get 0=some (.cells [.int .i64 (i:Nat)] true 0)∧h2.get 2=some (.loop 2 (some .ret) (q9 F) [15,16] aY aZ)):=by
 refine ak (af:=MA) false rfl (Nat.le_of_ble_eq_true rfl) ?_;generalize hQ:(fun(_:AV) (h2:Heap)=>(ej L t=-1∧h2=ri F t 0)∨
  ∃i:Nat,ej L t=i∧h2.get 0=some (.cells [.int .i64 (i:Nat)] true 0)∧h2.get 2=some (.loop 2 (some .ret) (q9 F) [15,16] aY aZ))=Q
 show p8 _ _ fun e=>AF fs ms 3 false false _ e ⟨3,.node (.node .nil (some (.cells [uV t] true 0)) .nil) (some (.cells [.int .i64 0] true 0)) (.node .nil (some (.loop 0 none (q9 F) [15,16] aY aZ)) .nil)⟩ _;conv=>whnf
 have hs:some (AV.int .i64 (IntKind.i64.wrap ((((ir L).length:Nat):Int)-1)))=some (AV.int .i64 ((L.length:Int)-1-((0:Nat):Int))):=by
  rw[fR,IntWalk.i64_in _ (by omega)];simp
 refine La (B:=3) (H:=ri F t 0) (d:=5) (l:=[(0,.yield 2),(1,.fp [.fz k (ir L)] 0),(3,.int .i64 ((L.length:Int)-1-((0:Nat):Int)))]) (BF _ _ _) id ⟨⟨_,rfl,.yield (by omega)⟩,⟨_,rfl,.cl (by simp[AV.cl,cw,dX])⟩,⟨_,hs,.cl rfl⟩,trivial⟩
  ⟨by omega,⟨_,rfl,mW rfl rfl⟩,by omega,⟨_,rfl,mW rfl rfl⟩,by omega,⟨_,rfl,y9 (by simp;exact⟨.ptr (by omega),.ptr (by omega),.cl hF⟩)⟩,trivial⟩ (by intro b c hb hc h;exact h) (fun b hb=>rfl) (Nat.le_refl _) ?_
 refine Bl 3 5 L.length (fun j=>∀i (h:i<L.length),L.length-j≤i→(L[i].1==t)=false) (fun j=>[(0,.yield 2),(1,.fp [.fz k (ir L)] 0),(3,.int .i64 ((L.length:Int)-1-((j:Nat):Int)))]) (fun _=>ri F t 0) ?_ ?_ (fun i h1 h2=>by omega)
 ·intro j hj hno;have hi:(L.length:Int)-1-((j:Nat):Int)=((L.length-1-j:Nat):Int):=by omega
  have hlt:L.length-1-j<L.length:=by omega
  have hix:=mR (k:=k) hlt;rw[hi];show AF fs ms 3 false false _ (ek 5 _) ⟨3,.node (.node .nil (some (.cells [uV t] true 0)) .nil) (some (.cells [.int .i64 0] true 0)) (.node .nil (some (.loop 0 none (q9 F) [15,16] aY aZ)) .nil)⟩ _;conv=>whnf
  refine⟨_,hix,?_⟩;conv=>whnf
  refine Ld rfl rfl ?_;refine aA (z:=false) ?_;conv=>whnf
  refine⟨rfl,none,rfl,?_⟩;refine aA (z:=false) ?_;conv=>whnf
  refine aO (Ku t L[L.length-1-j]) ?_;conv=>whnf
  refine br (fun hc=>?_) (fun hc=>?_)<;>(try rw[hc])<;>(conv=>whnf)
  ·refine⟨by simp,⟨1,none,rfl⟩,?_⟩;conv=>whnf
   subst hQ;refine .inr ⟨L.length-1-j,?_,rfl,rfl⟩;rw[BW (L.length-1-j+1) (by omega) (fun i h1 h2=>hno i h1 (by omega)),me,List.getElem?_eq_getElem hlt];simp only[hc];rfl
  ·refine⟨by simp,⟨1,none,rfl⟩,?_⟩;conv=>whnf
   have hw:some (AV.int .i64 (IntKind.i64.wrap (((L.length-1-j:Nat):Int)-1)))=some (AV.int .i64 ((L.length:Int)-1-((j+1:Nat):Int))):=by
    rw[IntWalk.i64_in _ (by omega)];congr 2;omega
   refine⟨fun i h1 h2=>?_,id,vS (H:=ri F t 0) (BU F t 0) _ ⟨⟨_,rfl,.yield (by omega)⟩,⟨_,rfl,.cl (by simp[AV.cl,cw,dX])⟩,⟨_,hw,.cl rfl⟩,trivial⟩
    ⟨by omega,⟨_,rfl,mW rfl rfl⟩,by omega,⟨_,rfl,mW rfl rfl⟩,by omega,⟨_,rfl,y9 (by simp;exact⟨.ptr (by omega),.ptr (by omega),.cl hF⟩)⟩,trivial⟩ (by intro b c hb hc h;exact h) (fun b hb=>rfl) (Nat.le_refl _)⟩
   by_cases e:i=L.length-1-j
   ·subst e;exact hc
   ·exact hno i h1 (by omega)
 ·intro hno;show AF fs ms 3 false false _ (ek 5 _) ⟨3,.node (.node .nil (some (.cells [uV t] true 0)) .nil) (some (.cells [.int .i64 0] true 0)) (.node .nil (some (.loop 0 none (q9 F) [15,16] aY aZ)) .nil)⟩ _;conv=>whnf
  refine qm (by simp;omega) (fun hc=>?_)
  (try rw[hc])
  conv=>whnf
  subst hQ;refine .inl ⟨?_,rfl⟩;rw[BW 0 (Nat.zero_le _) (fun i h1 h2=>hno i h1 (by omega))];rfl
theorem RZ(k k':Nat)(T:List Tk)(L:List En)(hL:L.length≤1000)(t:Int):PC fs ms 139 [stk k k' T L,.int .i64 t] (.int .i64 (ej L t)):=by
 refine cG (by simp[cw,AV.cl,nU]) rfl ?_;refine ak (af:=LW) false rfl (Nat.le_of_ble_eq_true rfl) ?_;generalize hQ:(fun(v:AV) (_:Heap)=>v=.int .i64 (ej L t))=Q;conv=>whnf
 refine aO (VE t) ?_;conv=>whnf
 refine aO (Qb k' L) ?_;conv=>whnf
 have hF:(AV.func (.func 180) [] [.fp [.fz k' (ir L)] 0]).cl=true:=by simp[AV.cl,cw,dX]
 refine La (B:=0) (d:=5) (l:=[(4,.ptr 0 0),(5,.ptr 1 0),(14,.func (.func 180) [] [.fp [.fz k' (ir L)] 0])]) (Q7 (.cells [.int .i64 0] true 0) (.cells [uV t] true 0)) id (by repeat' (first|exact trivial|refine cW rfl (by omega) ?_|refine cF rfl (by omega) ?_|refine bQ rfl (by omega) ?_|refine bl rfl (by first|rfl|simp[cw,AV.cl,bS,dX]) ?_|refine bl (aL (by omega)) rfl ?_)) ⟨by omega,⟨_,rfl,mW rfl rfl⟩,by omega,⟨_,rfl,mW rfl rfl⟩,trivial⟩ (by intro b c hb hc h;exact h) (fun b hb=>rfl) (by omega) ?_;show VC fs ms 0 false (.rangeFunc (.t 14) [15,16] aY aZ) _ _ _;refine Hy 2 rfl rfl rfl ?_;show VD fs ms _ [.yield 2,.fp [.fz k' (ir L)] 0] (Heap.new _ (.loop 0 none (q9 _) [15,16] aY aZ)) _;rw[GO];refine VD.mono (N3 k' L hL t hF) fun v h2 hh=>?_;rcases hh with⟨hl,rfl⟩|⟨i,hl,g0,g2⟩
 ·refine⟨.normal,0,GN _ _ _,by decide,by simp,?_⟩;rw[GP];conv=>whnf
  subst hQ;rw[hl]
 ·refine⟨.ret,2,g2,by decide,by simp,?_⟩;conv=>whnf
  refine eE (v:=[.int .i64 (i:Nat)]) (KL rfl ((aQ (by decide)).trans g0) rfl) ?_;conv=>whnf
  subst hQ;rw[hl]
end Ir
end Go.Proofs.YtnlcabhfkpafmaaGreat
namespace Go.Proofs.YtnlcabhfkpafmaaGreat
open Go Ads
namespace Ads
theorem yo{h:Heap}{s bytes b m n es:Nat}{wr:Bool}{vs cs:List AV}{x:AV}(hg:h.get b=some (.cells vs wr es))(hv:m*s≤vs.length)(hsrc:eJ s h x=some (n+1,cs))(hf:bz cs=true)(hb:bytes≤1048576)(hm:m+n≤1048576):
  eV (.append s bytes) [.sl b 0 m m false,x] h=some (.sl h.next 0 (m+(n+1)) (m+(n+1)) true,h.new (.cells (vs.take (m*s)++cs) true s)):=by
 have hmu:(m+(n+1))*bytes≤1048577*1048576:=Nat.mul_le_mul (by omega) hb;have b1:Nat.ble (m+(n+1)) m=false:=by cases hb:Nat.ble (m+(n+1)) m with|false=>rfl|true=>(have:=Nat.le_of_ble_eq_true hb;omega)
 have b2:Nat.ble ((m+(n+1))*bytes) 140737488355328=true:=Nat.ble_eq_true_of_le (by omega);have b3:Nat.ble (m+(n+1)) 9223372036854775807=true:=Nat.ble_eq_true_of_le (by omega);have Ac:h.bf b 0 (m*s)=some (vs.take (m*s)):=by rw[cN hg (by omega),List.drop_zero]
 simp only[eV,l2,hsrc];show cond (bz cs) _ _=_;rw[hf,cond_true];show cond (Nat.beq (n+1) 0&&Nat.ble m m) _ _=_;rw[show Nat.beq (n+1) 0=false from rfl,Bool.false_and,cond_false,b1,cond_false,b2,b3,Bool.and_self,cond_true,hg,Ac];rfl
end Ads
namespace Ir
def FP(h:Heap)(E:Nat)(v:AV)(L:List En):Prop:=
 (L=[]∧v=.aH)∨∃op rest es,v=.sl E 0 L.length L.length op∧E<h.next∧h.get E=some (.cells (aa (ir L)++rest) true es)∧(op=true→rest=[]∧es=2)
def gL(E:Nat):AV→List Nat
 |.aH=>[]
 |_=>[E]
theorem FP.keep{h h':Heap}{E:Nat}{v:AV}{L:List En}{bs:List Nat}(r:FP h E v L)(f:Fr h h' bs)(hE:∀c,c∈gL E v→c∉bs):FP h' E v L:=by
 rcases r with⟨h1,h2⟩|⟨op,rest,es,rfl,h2,h3,h4⟩
 ·exact .inl ⟨h1,h2⟩
 ·exact .inr ⟨op,rest,es,rfl,Nat.lt_of_lt_of_le h2 f.next,(f.keep E h2 (hE E (by simp[gL]))).trans h3,h4⟩
theorem mN(L:List En):(aa (ir L)).length=L.length*2:=by rw[lG (w7 L),fR]
theorem FP.view{h:Heap}{E:Nat}{v:AV}{L:List En}(r:FP h E v L):∃k,kY (fun _=>True) h v (.fz k (ir L)):=by
 rcases r with⟨rfl,rfl⟩|⟨op,rest,es,rfl,h2,h3,h4⟩
 ·exact⟨3,.aH⟩
 ·exact⟨0,qw trivial h3 rfl (w7 L) (fR L).symm (Nat.le_refl _) (dX L)⟩
theorem FP.app{h:Heap}{E:Nat}{v:AV}{L:List En}(r:FP h E v L)(hl:L.length≤1000)(x:En):∃v' g',eV (.append 2 16) [v,.sl h.next 0 1 1 false] (h.new (.cells (en x).cells true 0))=some (v',g')∧
  FP g' (h.next+1) v' (L++[x])∧Fr h g' (gL E v)∧h.next+1<g'.next:=by
 have hsrc:eJ 2 (h.new (.cells (en x).cells true 0)) (.sl h.next 0 1 1 false)=some (1,(en x).cells):=tu ai rfl;have hfl:∀L:List En,aa (ir L)++(en x).cells=aa (ir (L++[x]))++[]:=by
  intro L;rw[List.append_nil,ir,ir,List.map_append,lY];rfl
 rcases r with⟨rfl,rfl⟩|⟨op,rest,es,rfl,h2,h3,h4⟩
 ·refine⟨_,_,lD (nx:=h.next+1) (by omega) hsrc rfl,.inr ⟨true,[],2,rfl,Nat.lt_succ_self _,?_,fun _=>⟨rfl,rfl⟩⟩,?_,Nat.lt_succ_self _⟩
  ·exact ai (h:=h.new (.cells (en x).cells true 0))
  ·exact((Fr.refl h []).new (x:=.cells (en x).cells true 0)).new
 ·have hg:(h.new (.cells (en x).cells true 0)).get E=some (.cells (aa (ir L)++rest) true es):=by rw[ay h2];exact h3
  cases op with
  |true=>
   obtain⟨rfl,rfl⟩:=h4 rfl;rw[List.append_nil] at hg;refine⟨_,_,oX hg (mN L) hsrc rfl (by omega) (by omega),.inr ⟨true,[],2,by rw[List.length_append];rfl,Nat.lt_succ_self _,?_,fun _=>⟨rfl,rfl⟩⟩,?_,Nat.lt_succ_self _⟩
   ·rw[←hfl];exact ai (h:=(h.new (.cells (en x).cells true 0)).del E)
   ·refine⟨by show h.next≤h.next+1+1;omega,fun c hc hn=>?_⟩;have hne:c≠E:=by simpa[gL] using hn
    exact(ay (h:=(h.new (.cells (en x).cells true 0)).del E) (show c<h.next+1 by omega)).trans ((eD hne).trans (ay hc))
  |false=>
   refine⟨_,_,yo (m:=L.length) (n:=0) hg (by rw[List.length_append,mN];omega) hsrc rfl (by omega) (by omega),.inr ⟨true,[],2,by rw[List.length_append];rfl,Nat.lt_succ_self _,?_,fun _=>⟨rfl,rfl⟩⟩,?_,Nat.lt_succ_self _⟩
   ·rw[←hfl,←mN L,List.take_left];exact ai (h:=h.new (.cells (en x).cells true 0))
   ·exact((Fr.refl h [E]).new (x:=.cells (en x).cells true 0)).new
theorem An(l:List Int):lA (aa (ints l))=true:=by
 rw[lF];induction l with
 |nil=>rfl
 |cons x l ih=>exact ih
structure xy(h:Heap)(s E:Nat)(v:AV)(k:Nat)(T:List Tk)(L:List En):Prop where
 lt:s<h.next
 st:h.get s=some (.cells [.fz k (ey T),v,.bool true] true 0)
 en:FP h E v L
 ne:s∉gL E v
theorem xy.keep{h h':Heap}{s E k:Nat}{v:AV}{T:List Tk}{L:List En}(S:xy h s E v k T L)(f:Fr h h' []):xy h' s E v k T L:=
 ⟨Nat.lt_of_lt_of_le S.lt f.next,(f.keep s S.lt (by simp)).trans S.st,S.en.keep f (by simp),S.ne⟩
theorem xy.view{h:Heap}{s E k:Nat}{v:AV}{T:List Tk}{L:List En}(S:xy h s E v k T L):∃k',kY (fun _=>True) h (.ptr s 0) (stk k k' T L):=by
 obtain⟨k',hk⟩:=S.en.view;exact⟨k',.ptr' trivial S.st (.cons (.clean (by simp[AV.cl,bW])) (.cons hk (.cons (.clean rfl) .nil)))⟩
def jq(T:List Tk)(L:List En)(t r:Int):Int:=if eR T t !=0 then eR T t else if !uses T t r then 133 else if L.any (fun x=>x.2==r) then 131 else if decide (((aU L t).length:Int)≥4) then 130 else 0
section
variable {h:Heap} {s E k:Nat} {v:AV} {T:List Tk} {L:List En} {Q:AV→Heap→Prop}
theorem OQ{t r:Int}(S:xy h s E v k T L)(hT:T.length<2^62)(hL:L.length≤900)
  (h0:jq T L t r≠0→∀h',xy h' s E v k T L→Fr h h' []→Q (.int .i64 (jq T L t r)) h')
  (h1:jq T L t r=0→∀h' E' v',xy h' s E' v' k T (L++[(t,r)])→Fr h h' (s::gL E v)→h.next≤E'→E'<h'.next→Q (.int .i64 0) h'):VD fs ms 84 [.ptr s 0,.int .i64 t,.int .i64 r] h Q:=by
 refine ak (af:=WJ) true rfl (Nat.le_of_ble_eq_true rfl) ?_;have iX:Fr h (h.new (.cells [.int .i64 r] true 0)) []:=(Fr.refl h []).new;have S1:=S.keep iX;have gb:(h.new (.cells [.int .i64 r] true 0)).get h.next=some (.cells [.int .i64 r] true 0):=ai;have nb:h.next<(h.new (.cells [.int .i64 r] true 0)).next:=Nat.lt_succ_self _
 obtain⟨k1,Dq⟩:=S1.view;obtain⟨k2,Ry⟩:=S1.en.view;conv=>whnf
 refine jM (Eo k k1 T L t) rfl (.cons Dq (.cons (.clean rfl) .nil)) ?_;conv=>whnf
 refine br (fun hc=>?_) (fun hc=>?_)<;>(try rw[hc])<;>(conv=>whnf)
 ·have e:jq T L t r=eR T t:=by rw[jq,if_pos hc]
  rw[e] at h0;exact h0 (by simpa using hc) _ S1 iX
 have e1:jq T L t r=if !uses T t r then 133 else if L.any (fun x=>x.2==r) then 131 else if decide (((aU L t).length:Int)≥4) then 130 else 0:=by rw[jq,if_neg (by rw[hc];simp)]
 repeat(first|(refine⟨_,bU S1.st rfl,?_⟩;conv=>whnf)|(refine⟨_,bU gb rfl,?_⟩;conv=>whnf))
 refine aO (FH k T hT t r) ?_;conv=>whnf
 refine br (fun hc=>?_) (fun hc=>?_)<;>(try rw[hc])<;>(conv=>whnf)
 ·rw[if_pos hc] at e1;rw[e1] at h0;exact h0 (by decide) _ S1 iX
 rw[if_neg (by rw[hc];simp)] at e1;repeat(first|(refine⟨_,bU S1.st rfl,?_⟩;conv=>whnf)|(refine⟨_,bU gb rfl,?_⟩;conv=>whnf))
 obtain⟨n,hn,Zz⟩:∃n:Bool,PC fs ms 138 [.fz k2 (ir L),.func (.func 136) [] [.fp [.int .i64 r] 0]] (.bool n)∧n=L.any (fun x=>x.2==r):=⟨_,Qg k2 L (by omega) rfl (fun m _=>N8 r m),rfl⟩;refine jM hn rfl (.cons Ry (.cons (.func' .nil (.cons (.ptr' trivial gb (.clean rfl)) .nil)) .nil)) ?_;rw[←Zz] at e1;conv=>whnf
 refine br (fun hc=>?_) (fun hc=>?_)<;>(try rw[hc])<;>(conv=>whnf)
 ·rw[if_pos hc] at e1;rw[e1] at h0;exact h0 (by decide) _ S1 iX
 rw[if_neg (by rw[hc];simp)] at e1;refine xp (by simp[cw,nU,AV.cl]) (An _) (Di k k1 T L (by omega) t) (.cons Dq (.cons (.clean rfl) .nil)) (fun he=>?_) ?_
 ·have hz:aU L t=[]:=by
   have:=congrArg List.length he;rw[cm] at this;exact List.length_eq_zero_iff.1 this
  rw[hz] at e1;have e0:jq T L t r=0:=e1;conv=>whnf
  repeat(first|(refine⟨_,bU S1.st rfl,?_⟩;conv=>whnf)|(refine⟨_,bU gb rfl,?_⟩;conv=>whnf))
  obtain⟨v',g',ha,UD,hfr,m0⟩:=S1.en.app (by omega) (t,r);refine⟨_,_,ha,?_⟩;rcases UD with⟨GH,_⟩|⟨op,rest,es,rfl,g2,g3,g4⟩
  ·simp at GH
  have hs:g'.get s=some (.cells [.fz k (ey T),v,.bool true] true 0):=(hfr.keep s S1.lt S1.ne).trans S1.st;conv=>whnf
  refine⟨_,_,cj hs rfl (Nat.le_of_ble_eq_true rfl) rfl,?_⟩;conv=>whnf
  have hlt:s≠(h.new (.cells [.int .i64 r] true 0)).next+1:=by have:=S1.lt;omega
  refine h1 e0 _ _ _ ⟨Nat.lt_of_lt_of_le S1.lt hfr.next,aC,.inr ⟨op,rest,es,rfl,g2,(aQ (Ne.symm hlt)).trans g3,g4⟩,by simpa[gL] using hlt⟩ ?_ ?_ g2
  ·exact(iX.wk (by simp)).trans ((hfr.wk (by intro c hc;simp[hc])).set (by simp))
  ·exact Nat.le_succ_of_le iX.next
 ·have jx:Fr h ((h.new (.cells [.int .i64 r] true 0)).new (.cells (aa (ints (aU L t))) true 1)) []:=iX.new;have S2:=S1.keep ((Fr.refl _ []).new (x:=.cells (aa (ints (aU L t))) true 1));have gb2:=(ay (x:=.cells (aa (ints (aU L t))) true 1) nb).trans gb;conv=>whnf
  rw[cm];refine br (fun hc=>?_) (fun hc=>?_)<;>(try rw[hc])<;>(conv=>whnf)
  ·rw[if_pos hc] at e1;rw[e1] at h0;exact h0 (by decide) _ S2 jx
  have e0:jq T L t r=0:=by rw[e1,if_neg (by rw[hc];simp)]
  repeat(first|(refine⟨_,bU S2.st rfl,?_⟩;conv=>whnf)|(refine⟨_,bU gb2 rfl,?_⟩;conv=>whnf))
  obtain⟨v',g',ha,UD,hfr,m0⟩:=S2.en.app (by omega) (t,r);refine⟨_,_,ha,?_⟩;rcases UD with⟨GH,_⟩|⟨op,rest,es,rfl,g2,g3,g4⟩
  ·simp at GH
  have hs:g'.get s=some (.cells [.fz k (ey T),v,.bool true] true 0):=(hfr.keep s S2.lt S2.ne).trans S2.st;conv=>whnf
  refine⟨_,_,cj hs rfl (Nat.le_of_ble_eq_true rfl) rfl,?_⟩;conv=>whnf
  have hlt:s≠((h.new (.cells [.int .i64 r] true 0)).new (.cells (aa (ints (aU L t))) true 1)).next+1:=by have:=S2.lt;omega
  refine h1 e0 _ _ _ ⟨Nat.lt_of_lt_of_le S2.lt hfr.next,aC,.inr ⟨op,rest,es,rfl,g2,(aQ (Ne.symm hlt)).trans g3,g4⟩,by simpa[gL] using hlt⟩ ?_ ?_ g2
  ·exact(jx.wk (by simp)).trans ((hfr.wk (by intro c hc;simp[hc])).set (by simp))
  ·exact Nat.le_succ_of_le jx.next
end
end Ir
end Go.Proofs.YtnlcabhfkpafmaaGreat
namespace Go.Proofs.YtnlcabhfkpafmaaGreat
open Go Ads
namespace Ads
theorem Qm{E n i:Nat}{op:Bool}(h:i<n):pV (.slice 2 false true true) [.sl E 0 n n op,.int .i64 ((i:Nat):Int),.int .i64 ((i:Nat):Int)]=some (.sl E 0 i i false):=by
 have hb:bounds n n false true true [.int .i64 ((i:Nat):Int),.int .i64 ((i:Nat):Int)]=some (0,i,i):=by
  have b1:Nat.ble i i=true:=Nat.ble_eq_true_of_le (Nat.le_refl _);have b2:Nat.ble i n=true:=Nat.ble_eq_true_of_le (by omega);show cond (Nat.ble 0 i&&Nat.ble i i&&Nat.ble i n) _ _=_;rw[b1,b2];rfl
 have he:pV (.slice 2 false true true) [.sl E 0 n n op,.int .i64 ((i:Nat):Int),.int .i64 ((i:Nat):Int)]=(match bounds n n false true true [.int .i64 ((i:Nat):Int),.int .i64 ((i:Nat):Int)] with
   |some (a,hh,mm)=>cond (Nat.beq mm a&&Nat.beq n mm&&(op&&!true&&!Nat.beq a 0)) (some (.rest E 0 (a*2))) (some (.sl E (0+cond (Nat.beq mm a) 0 (a*2)) (hh-a) (mm-a) false))
   |none=>none):=rfl
 rw[he,hb];show cond (Nat.beq i 0&&Nat.beq n i&&(op&&!true&&!Nat.beq 0 0)) _ (some (AV.sl E (0+cond (Nat.beq i 0) 0 (0*2)) (i-0) (i-0) false))=_;have b3:(op&&!true&&!Nat.beq 0 0)=false:=by cases op<;>rfl
 rw[b3,Bool.and_false,cond_false];cases Nat.beq i 0<;>rfl
theorem tail_at{h:Heap}{E n i es:Nat}{op wr:Bool}{cs:List AV}(hi:i<n)(hg:h.get E=some (.cells cs wr es))(hn:n*2≤cs.length):
  ∃src,pV (.slice 2 true false false) [.sl E 0 n n op,.int .i64 (((i+1:Nat):Int))]=some src∧eJ 2 h src=some (n-(i+1),(cs.drop ((i+1)*2)).take ((n-(i+1))*2)):=by
 have hb:bounds n n true false false [.int .i64 ((i+1:Nat):Int)]=some (i+1,n,n):=by
  have b1:Nat.ble n n=true:=Nat.ble_eq_true_of_le (Nat.le_refl _);have b2:Nat.ble (i+1) n=true:=Nat.ble_eq_true_of_le (by omega);show cond (Nat.ble (i+1) n&&Nat.ble n n&&Nat.ble n n) _ _=_;rw[b1,b2];rfl
 have he:pV (.slice 2 true false false) [.sl E 0 n n op,.int .i64 ((i+1:Nat):Int)]=(match bounds n n true false false [.int .i64 ((i+1:Nat):Int)] with
   |some (a,hh,mm)=>cond (Nat.beq mm a&&Nat.beq n mm&&(op&&!false&&!Nat.beq a 0)) (some (.rest E 0 (a*2))) (some (.sl E (0+cond (Nat.beq mm a) 0 (a*2)) (hh-a) (mm-a) op))
   |none=>none):=rfl
 rw[he,hb];by_cases e:n=i+1
 ·subst e;rw[Nat.sub_self,Nat.zero_mul,List.take_zero];cases op with
  |true=>
   refine⟨.rest E 0 ((i+1)*2),?_,rfl⟩;show cond (Nat.beq (i+1) (i+1)&&Nat.beq (i+1) (i+1)&&(true&&!false&&!Nat.beq (i+1) 0)) _ _=_;rw[Nat.beq_refl];rfl
  |false=>
   refine⟨.sl E 0 0 0 false,?_,?_⟩
   ·show cond (Nat.beq (i+1) (i+1)&&Nat.beq (i+1) (i+1)&&(false&&!false&&!Nat.beq (i+1) 0)) _ (some (AV.sl E (0+cond (Nat.beq (i+1) (i+1)) 0 ((i+1)*2)) (i+1-(i+1)) (i+1-(i+1)) false))=_;rw[Nat.beq_refl,Nat.sub_self];rfl
   ·show(h.bf E 0 (0*2)).map _=_;rw[cN hg (by omega)];rfl
 ·have b0:Nat.beq n (i+1)=false:=by
   cases hc:Nat.beq n (i+1) with
   |false=>rfl
   |true=>exact absurd (Nat.eq_of_beq_eq_true hc) e
  refine⟨.sl E ((i+1)*2) (n-(i+1)) (n-(i+1)) op,?_,?_⟩
  ·show cond (Nat.beq n (i+1)&&_&&_) _ (some (AV.sl E (0+cond (Nat.beq n (i+1)) 0 ((i+1)*2)) (n-(i+1)) (n-(i+1)) op))=_;rw[b0,Bool.false_and,Bool.false_and,cond_false,cond_false,Nat.zero_add]
  ·show(h.bf E ((i+1)*2) ((n-(i+1))*2)).map _=_;rw[cN hg (by omega)];rfl
theorem Ij{h:Heap}{s bytes b m:Nat}{cs:List AV}{x:AV}(hsrc:eJ s h x=some (0,cs))(hf:bz cs=true):eV (.append s bytes) [.sl b 0 m m false,x] h=some (.sl b 0 m m false,h):=by
 simp only[eV,l2,hsrc];show cond (bz cs) _ _=_;rw[hf,cond_true];show cond (Nat.beq 0 0&&Nat.ble m m) _ _=_;rw[show Nat.ble m m=true from Nat.ble_eq_true_of_le (Nat.le_refl _)];rfl
end Ads
namespace Ir
theorem Gq(L:List En):bz (aa (ir L))=true:=by
 induction L with
 |nil=>rfl
 |cons x L ih=>exact ih
theorem ve(L M:List En):aa (ir (L++M))=aa (ir L)++aa (ir M):=by rw[ir,List.map_append,lY];rfl
theorem IP{L:List En}{i:Nat}(h:i≤L.length)(rest:List AV):(aa (ir L)++rest).take (i*2)=aa (ir (L.take i)):=by
 have e:aa (ir L)=aa (ir (L.take i))++aa (ir (L.drop i)):=by rw[←ve,List.take_append_drop]
 have hl:(aa (ir (L.take i))).length=i*2:=by rw[mN,List.length_take];omega
 rw[e,List.append_assoc,←hl,List.take_left]
theorem IN{L:List En}{i:Nat}(h:i≤L.length)(rest:List AV):(aa (ir L)++rest).drop (i*2)=aa (ir (L.drop i))++rest:=by
 have e:aa (ir L)=aa (ir (L.take i))++aa (ir (L.drop i)):=by rw[←ve,List.take_append_drop]
 have hl:(aa (ir (L.take i))).length=i*2:=by rw[mN,List.length_take];omega
 rw[e,List.append_assoc,←hl,List.drop_left]
theorem FP.cut{h:Heap}{E:Nat}{v:AV}{L:List En}(r:FP h E v L)(hl:L.length≤1000){i:Nat}(hi:i<L.length):
  ∃s1 s2,pV (.slice 2 false true true) [v,.int .i64 ((i:Nat):Int),.int .i64 ((i:Nat):Int)]=some s1∧pV (.slice 2 true false false) [v,.int .i64 ((i+1:Nat):Int)]=some s2∧
   ∃v' g' E',eV (.append 2 16) [s1,s2] h=some (v',g')∧FP g' E' v' (L.eraseIdx i)∧Fr h g' []∧(E'∈gL E v∨h.next≤E')∧v'≠.aH:=by
 rcases r with⟨rfl,rfl⟩|⟨op,rest,es,rfl,h2,h3,h4⟩
 ·simp at hi
 have hlen:(aa (ir L)++rest).length=L.length*2+rest.length:=by rw[List.length_append,mN]
 obtain⟨src,e1,e2⟩:=tail_at (op:=op) hi h3 (by omega);refine⟨_,_,Qm hi,e1,?_⟩;rw[IN (by omega)] at e2;have hd:(aa (ir (L.drop (i+1)))).length=(L.length-(i+1))*2:=by rw[mN,List.length_drop]
 rw[←hd,List.take_left] at e2;have he:L.eraseIdx i=L.take i++L.drop (i+1):=List.eraseIdx_eq_take_drop_succ ..;have hle:(L.eraseIdx i).length=L.length-1:=by rw[List.length_eraseIdx];simp[hi]
 by_cases hn:L.length=i+1
 ·have Pt:L.drop (i+1)=[]:=List.drop_eq_nil_iff.2 (by omega);rw[hn,Nat.sub_self,Pt] at e2;refine⟨_,_,E,Ij e2 rfl,.inr ⟨false,aa (ir (L.drop i))++rest,es,?_,h2,?_,by simp⟩,Fr.refl _ _,.inl (by simp[gL]),by simp⟩
  ·rw[hle,hn];rfl
  ·rw[he,Pt,List.append_nil,←List.append_assoc,←ve,List.take_append_drop];exact h3
 ·obtain⟨m,hm⟩:∃m,L.length-(i+1)=m+1:=⟨L.length-(i+2),by omega⟩;rw[hm] at e2;refine⟨_,_,h.next,yo (m:=i) (n:=m) h3 (by omega) e2 (Gq _) (by omega) (by omega),.inr ⟨true,[],2,?_,Nat.lt_succ_self _,?_,fun _=>⟨rfl,rfl⟩⟩,(Fr.refl h []).new,.inr (Nat.le_refl _),by simp⟩
  ·rw[hle,show i+(m+1)=L.length-1 by omega]
  ·rw[IP (by omega),←ve,←he,List.append_nil];exact ai
def nJ(T:List Tk)(L:List En)(t:Int):Int:=if eR T t !=0 then eR T t else if decide (ej L t<0) then 132 else 0
theorem BV(L:List En)(t:Int):∀n,n≤L.length→me L t n=-1∨∃i,i<n∧me L t n=((i:Nat):Int)
 |0,_=>.inl rfl
 |n+1,h=>by
  rw[me,List.getElem?_eq_getElem (by omega)];cases hc:(L[n].1==t) with
  |true=>exact .inr ⟨n,by omega,by simp only[hc];rfl⟩
  |false=>
   simp only[hc];rw[if_neg (by simp)];rcases BV L t n (by omega) with h1|⟨i,h1,h2⟩
   ·exact .inl h1
   ·exact .inr ⟨i,by omega,h2⟩
theorem TV{L:List En}{i:Nat}(h:i<L.length)(rest:List AV):(aa (ir L)++rest)[i*2+1]?=some (.int .i64 L[i].2):=by
 rw[List.getElem?_append_left (by rw[mN];omega)];exact qv (w7 L) (x:=en L[i]) (by rw[ir,List.getElem?_map,List.getElem?_eq_getElem h];rfl) rfl
section
variable {h:Heap} {s E k:Nat} {v:AV} {T:List Tk} {L:List En} {Q:AV→Heap→Prop}
theorem ur{t:Int}(S:xy h s E v k T L)(hL:L.length≤900)
  (h0:nJ T L t≠0→∀h',xy h' s E v k T L→Fr h h' []→Q (.cD [.int .i64 0,.int .i64 (nJ T L t)]) h')
  (h1:nJ T L t=0→∀i (hi:i<L.length),ej L t=((i:Nat):Int)→∀h' E' v',xy h' s E' v' k T (L.eraseIdx i)→Fr h h' [s]→(E'∈gL E v∨h.next≤E')→v'≠.aH→Q (.cD [.int .i64 L[i].2,.int .i64 0]) h'):VD fs ms 87 [.ptr s 0,.int .i64 t] h Q:=by
 refine ak (af:=WM) true rfl (Nat.le_of_ble_eq_true rfl) ?_;obtain⟨k1,Dq⟩:=S.view;conv=>whnf
 refine jM (Eo k k1 T L t) rfl (.cons Dq (.cons (.clean rfl) .nil)) ?_;conv=>whnf
 refine br (fun hc=>?_) (fun hc=>?_)<;>(try rw[hc])<;>(conv=>whnf)
 ·have e:nJ T L t=eR T t:=by rw[nJ,if_pos hc]
  rw[e] at h0;exact h0 (by simpa using hc) _ S (Fr.refl _ _)
 have e1:nJ T L t=if decide (ej L t<0) then 132 else 0:=by rw[nJ,if_neg (by rw[hc];simp)]
 refine jM (RZ k k1 T L (by omega) t) rfl (.cons Dq (.cons (.clean rfl) .nil)) ?_;conv=>whnf
 refine br (fun hc=>?_) (fun hc=>?_)<;>(try rw[hc])<;>(conv=>whnf)
 ·rw[if_pos hc] at e1;rw[e1] at h0;exact h0 (by decide) _ S (Fr.refl _ _)
 rw[if_neg (by rw[hc];simp)] at e1;have hlt:=of_decide_eq_false hc;obtain⟨i,hi,hla⟩:∃i,i<L.length∧ej L t=((i:Nat):Int):=by
  rcases BV L t L.length (Nat.le_refl _) with h2|h2
  ·exact absurd (show ej L t<0 by rw[ej,h2];decide) hlt
  ·exact h2
 rw[hla];obtain⟨s1,s2,a1,a2,v',g',E',a3,UD,hfr,hE,hnv⟩:=S.en.cut (by omega) hi;have hv:∃op rest es,v=.sl E 0 L.length L.length op∧h.get E=some (.cells (aa (ir L)++rest) true es):=by
  rcases S.en with⟨rfl,_⟩|⟨op,rest,es,b1,b2,b3,b4⟩
  ·simp at hi
  ·exact⟨op,rest,es,b1,b3⟩
 obtain⟨op,rest,es,rfl,hge⟩:=hv;repeat(first|(refine⟨_,bU S.st rfl,?_⟩;conv=>whnf))
 refine⟨_,bL hi,?_⟩;conv=>whnf
 refine⟨_,bU hge (TV hi rest),?_⟩;conv=>whnf
 repeat(first|(refine⟨_,bU S.st rfl,?_⟩;conv=>whnf))
 refine⟨_,a1,?_⟩;conv=>whnf
 repeat(first|(refine⟨_,bU S.st rfl,?_⟩;conv=>whnf))
 have hw:IntKind.i64.wrap (((i:Nat):Int)+1)=((i+1:Nat):Int):=by rw[IntWalk.i64_in _ (by omega)];omega
 rw[←hw] at a2;refine⟨_,a2,?_⟩;conv=>whnf
 refine⟨_,_,a3,?_⟩;conv=>whnf
 have hs:g'.get s=some (.cells [.fz k (ey T),.sl E 0 L.length L.length op,.bool true] true 0):=(hfr.keep s S.lt (by simp)).trans S.st;have hls:s<g'.next:=Nat.lt_of_lt_of_le S.lt hfr.next;have hsE:s≠E':=by
  rcases hE with h|h
  ·have:=S.ne;simp[gL] at this h;rw[h];exact this
  ·have:=S.lt;omega
 rcases UD with⟨_,rfl⟩|⟨XB,eu,es2,rfl,b2,b3,b4⟩
 ·exact absurd rfl hnv
 refine⟨_,_,cj hs rfl (Nat.le_of_ble_eq_true rfl) rfl,?_⟩;conv=>whnf
 refine h1 e1 i hi hla _ E' _ ⟨hls,aC,.inr ⟨XB,eu,es2,rfl,b2,(aQ (Ne.symm hsE)).trans b3,b4⟩,by simpa[gL] using hsE⟩ ((hfr.wk (by simp)).set (by simp)) hE (by simp)
end
theorem wq(L:List En)(t:Int):∀n,n≤L.length→∀i (hi:i<L.length),me L t n=((i:Nat):Int)→(L[i].1==t)=true
 |0,_,i,hi,h=>by simp only[me] at h;omega
 |n+1,hn,i,hi,h=>by
  rw[me,List.getElem?_eq_getElem (by omega)] at h;cases hc:(L[n].1==t) with
  |true=>
   simp only[hc] at h;have:n=i:=by
    have h:((n:Nat):Int)=((i:Nat):Int):=h;omega
   subst this;exact hc
  |false=>
   simp only[hc] at h;rw[if_neg (by simp)] at h;exact wq L t n (by omega) i hi h
theorem wu(L:List En)(t:Int):∀n,n≤L.length→me L t n<0→∀i (hi:i<L.length),i<n→(L[i].1==t)=false
 |0,_,_,i,hi,h=>by omega
 |n+1,hn,hl,i,hi,h=>by
  rw[me,List.getElem?_eq_getElem (by omega)] at hl;cases hc:(L[n].1==t) with
  |true=>
   simp only[hc] at hl;have hl:((n:Nat):Int)<0:=hl;omega
  |false=>
   simp only[hc] at hl;rw[if_neg (by simp)] at hl;by_cases e:i=n
   ·subst e;exact hc
   ·exact wu L t n (by omega) hl i hi (by omega)
def iB(L:List En)(t:Int):List En:=L.filter fun x=>!(x.1==t)
theorem Gi{L:List En}{t:Int}(h:ej L t<0):iB L t=L:=by
 rw[iB,List.filter_eq_self];intro x hx;obtain⟨i,hi,rfl⟩:=List.getElem_of_mem hx;rw[wu L t L.length (Nat.le_refl _) h i hi hi];rfl
theorem drop_one{L:List En}{t:Int}{i:Nat}(hi:i<L.length)(h:ej L t=((i:Nat):Int)):iB (L.eraseIdx i) t=iB L t:=by
 have hp:=wq L t L.length (Nat.le_refl _) i hi h;have e:L=L.take i++L[i]::L.drop (i+1):=by rw[List.getElem_cons_drop,List.take_append_drop]
 rw[List.eraseIdx_eq_take_drop_succ];conv=>rhs;rw[e]
 rw[iB,iB,List.filter_append,List.filter_append,List.filter_cons];rw[hp];rfl
theorem xy.yR{h h':Heap}{s E k:Nat}{v:AV}{T:List Tk}{L:List En}(S:xy h s E v k T L)(hn:h.next≤h'.next)(h1:h'.get s=h.get s)(h2:∀c,c∈gL E v→c<h.next→h'.get c=h.get c):xy h' s E v k T L:=by
 refine⟨Nat.lt_of_lt_of_le S.lt hn,h1.trans S.st,?_,S.ne⟩;rcases S.en with⟨b1,b2⟩|⟨op,rest,es,rfl,b2,b3,b4⟩
 ·exact .inl ⟨b1,b2⟩
 ·exact .inr ⟨op,rest,es,rfl,Nat.lt_of_lt_of_le b2 hn,(h2 E (by simp[gL]) b2).trans b3,b4⟩
theorem jU.off{lo:Nat}{h:Heap}{v:AV}{l:List Int}(r:jU lo h v l){c:Nat}(hc:c<lo∨h.next≤c):DD v c:=by
 intro o n k op e;rcases r with⟨_,h2⟩|⟨b,h1,h2,h3,_⟩
 ·rw[h2] at e;cases e
 ·rw[h3] at e;cases e;omega
theorem jU.yR{lo:Nat}{h h':Heap}{v:AV}{l:List Int}{bs:List Nat}(hr:jU lo h v l)(fr:Fr h h' bs)(hb:∀c,c∈bs→c<lo):jU lo h' v l:=by
 rcases hr with hr|⟨b,h1,h2,h3,h4⟩
 ·exact .inl hr
 ·exact .inr ⟨b,h1,Nat.lt_of_lt_of_le h2 fr.next,h3,by rw[fr.keep b h2 (fun hm=>by have:=hb b hm;omega)];exact h4⟩
theorem uh{c E:Nat}{v:AV}(h:c∈gL E v):c=E:=by
 cases v<;>simp[gL] at h<;>exact h
theorem uj{h:Heap}{E:Nat}{v:AV}{L:List En}(r:FP h E v L){c:Nat}(hc:c∈gL E v):c<h.next:=by
 rcases r with⟨_,rfl⟩|⟨op,rest,es,rfl,b2,_⟩
 ·simp[gL] at hc
 ·rw[uh hc];exact b2
theorem wZ{t:Int}{h0:Heap}{B:Nat}{Q:AX→Env→Heap→Prop}{s k:Nat}{T:List Tk}{F:List En}{own:List Nat}(ha:eR T t=0)(hs0:s<h0.next)
  (hQ:∀h' E v e',xy h' s E v k T F→Fr h0 h' (s::own)→(∀c,c∈gL E v→c∈own∨h0.next≤c)→(∃w,Tr.get e' 4=some w)→Q (.exit 0) e' h'):
  ∀(m:Nat) (L:List En) (h:Heap) (E:Nat) (v out:AV) (l:List Int) (r e:Int) (env:Env),L.length+(if e=0 then 1 else 0)=m→xy h s E v k T L→L.length≤900→l.length+m≤2000→iB L t=F→(e≠0→ej L t<0)→
   jU h0.next h out l→(∀c,c∈gL E v→DD out c)→Fr h0 h (s::own)→(∀c,c∈gL E v→c∈own∨h0.next≤c)→bZ env [(0,.ptr s 0),(1,.int .i64 t),(4,out),(5,.int .i64 r),(6,.int .i64 e)]→
   VC fs ms B false (.loop kq) env h Q:=by
 intro m;induction m using Nat.strongRecOn with
 |ind m ih=>
 intro L h E v out l r e env hm S hL hlm hF hno ho hoff fr hown fO;refine aE 3 _ fO ?_;refine dm (z:=true) ?_;conv=>whnf
 refine br (fun hc=>?_) (fun hc=>?_)<;>(try rw[hc])<;>(conv=>whnf)
 ·have he:e=0:=eq_of_beq hc;rw[if_pos he] at hm;obtain⟨o',g',a1,a2,a3,a4,a5⟩:=ho.app fr.next (by omega) r;refine⟨_,_,a1,?_⟩;have JL:=S.lt;have S2:xy g' s E v k T L:=S.yR a3 (a4 s JL (ho.off (.inl hs0))) (fun c hc hlt=>a4 c hlt (hoff c hc));have jx:Fr h0 g' (s::own):=⟨Nat.le_trans fr.next a3,fun c hc hn=>(a4 c (Nat.lt_of_lt_of_le hc fr.next) (ho.off (.inl hc))).trans (fr.keep c hc hn)⟩;have hlen:(l++[r]).length=l.length+1:=by simp
  have hun:nJ T L t=if decide (ej L t<0) then 132 else 0:=by rw[nJ,ha];rfl
  conv=>whnf
  refine ur S2 hL (fun hu h2 S3 jE=>?_) (fun hu i hi hla h2 E2 v2 S3 jE Ug Ry=>?_)
  ·conv=>whnf
   refine ih L.length (by omega) L h2 E v o' (l++[r]) 0 (nJ T L t) _ (by rw[if_neg hu];exact Nat.add_zero _) S3 hL (by omega) hF (fun _=>?_) (a2.yR jE (fun c hc=>by simp at hc)) (fun c hc=>a5 c (uj S.en hc)) (jx.trans (jE.wk (by simp))) hown ⟨rfl,rfl,rfl,rfl,rfl,trivial⟩;cases hd:decide (ej L t<0) with
   |true=>exact of_decide_eq_true hd
   |false=>rw[hun,hd] at hu;exact absurd rfl hu
  ·have hle:(L.eraseIdx i).length=L.length-1:=by rw[List.length_eraseIdx];simp[hi]
   conv=>whnf
   refine ih L.length (by omega) (L.eraseIdx i) h2 E2 v2 o' (l++[r]) L[i].2 0 _ (by rw[if_pos rfl,hle];omega) S3 (by omega) (by omega) ((drop_one hi hla).trans hF) (fun h=>absurd rfl h) (a2.yR jE (fun c hc=>by rw[List.mem_singleton.1 hc];exact hs0)) (fun c hc=>?_) (jx.trans (jE.wk (by simp))) (fun c hc=>?_) ⟨rfl,rfl,rfl,rfl,rfl,trivial⟩
   ·rw[uh hc];rcases Ug with h|h
    ·exact a5 E2 (uj S.en h)
    ·exact a2.off (.inr h)
   ·rw[uh hc];rcases Ug with h|h
    ·exact hown E2 h
    ·exact .inr (Nat.le_trans (Nat.le_trans fr.next a3) h)
 ·have he:e≠0:=by intro h;subst h;simp at hc
  rw[Gi (hno he)] at hF;subst hF;exact hQ _ _ _ _ S fr hown ⟨_,rfl⟩
theorem OM{h:Heap}{s E k:Nat}{v:AV}{T:List Tk}{L:List En}{Q:AV→Heap→Prop}{t:Int}(S:xy h s E v k T L)(hL:L.length≤900)(ha:eR T t=0)
  (hQ:∀w h' E' v',xy h' s E' v' k T (iB L t)→Fr h h' (s::gL E v)→(∀c,c∈gL E' v'→c∈gL E v∨h.next≤c)→Q w h'):VD fs ms 93 [.ptr s 0,.int .i64 t] h Q:=by
 refine dz (af:=WQ) rfl (Nat.le_of_ble_eq_true rfl) ?_;conv=>whnf
 refine aM true ?_;conv=>whnf
 refine bt (aM true ?_);conv=>whnf
 have hun:nJ T L t=if decide (ej L t<0) then 132 else 0:=by rw[nJ,ha];rfl
 refine ur S hL (fun hu h2 S3 jE=>?_) (fun hu i hi hla h2 E2 v2 S3 jE Ug Ry=>?_)
 ·conv=>whnf
  refine bR ?_;refine wZ (h0:=h) (F:=iB L t) (own:=gL E v) ha S.lt ?_ _ L h2 E v .aH [] 0 (nJ T L t) _ rfl S3 hL (by rw[if_neg hu];simp;omega) rfl (fun _=>?_) (.inl ⟨rfl,rfl⟩) (fun c _ o n k op e=>by cases e) (jE.wk (by simp)) (fun c hc=>.inl hc) ⟨rfl,rfl,rfl,rfl,rfl,trivial⟩
  ·intro h3 E3 v3 e3 S4 jR Z7 hw;obtain⟨w,hw⟩:=hw;show VC fs ms _ _ _ _ _ _;refine aE 3 [(4,w)] ⟨hw,trivial⟩ (aA (z:=true) ?_);conv=>whnf
   exact hQ _ _ _ _ S4 jR Z7
  ·cases hd:decide (ej L t<0) with
   |true=>exact of_decide_eq_true hd
   |false=>rw[hun,hd] at hu;exact absurd rfl hu
 ·conv=>whnf
  refine bR ?_;have hle:(L.eraseIdx i).length=L.length-1:=by rw[List.length_eraseIdx];simp[hi]
  refine wZ (h0:=h) (F:=iB L t) (own:=gL E v) ha S.lt ?_ _ (L.eraseIdx i) h2 E2 v2 .aH [] L[i].2 0 _ rfl S3 (by omega) (by simp;omega) (drop_one hi hla) (fun h=>absurd rfl h) (.inl ⟨rfl,rfl⟩) (fun c _ o n k op e=>by cases e) (jE.wk (by simp)) (fun c hc=>by rw[uh hc];exact Ug) ⟨rfl,rfl,rfl,rfl,rfl,trivial⟩;intro h3 E3 v3 e3 S4 jR Z7 hw;obtain⟨w,hw⟩:=hw;show VC fs ms _ _ _ _ _ _;refine aE 3 [(4,w)] ⟨hw,trivial⟩ (aA (z:=true) ?_);conv=>whnf
  exact hQ _ _ _ _ S4 jR Z7
theorem nG(l:List Tk):aR 8 (ey l)=true:=gO (enc:=tk) (fun _=>rfl) l
theorem Gs(l:List Tk):bz (aa (ey l))=true:=by
 induction l with
 |nil=>rfl
 |cons x l ih=>exact ih
theorem Bb(k:Nat)(ts:List Tk)(hk:k=3→ts=[])(h:ts.length≤1000):∃k2,PC fs ms 36 [.fz k (ey ts)] (.fz k2 (ey ts)):=by
 cases hb:Nat.beq k 3 with
 |true=>
  have:=hk (Nat.eq_of_beq_eq_true hb);subst this;refine⟨3,by simp[cw,AV.cl,bW],by simp[AV.cl,bW],?_⟩;refine ak (af:=SL) false rfl (Nat.le_of_ble_eq_true rfl) ?_;conv=>whnf
  rw[hb];conv=>whnf
  exact .aH
 |false=>
  cases ts with
  |nil=>
   refine⟨0,by simp[cw,AV.cl,bW],by simp[AV.cl,bW],?_⟩;refine ak (af:=SL) false rfl (Nat.le_of_ble_eq_true rfl) ?_;generalize hQ:(fun(u:AV) (g:Heap)=>kY (fun _=>True) g u (.fz 0 (ey [])))=Q;conv=>whnf
   rw[hb];conv=>whnf
   refine⟨_,_,AW (s:=8) (bytes:=64) (xh (k:=k) (nG [])) rfl,?_⟩;conv=>whnf
   subst hQ;exact .row (s:=8) trivial rfl rfl rfl rfl (Nat.le_refl _) (by omega) (fun _=>rfl) (fun _=>rfl) rfl
  |cons t0 tr=>
   refine⟨0,by simp[cw,AV.cl,bW],by simp[AV.cl,bW],?_⟩;refine ak (af:=SL) false rfl (Nat.le_of_ble_eq_true rfl) ?_;generalize hQ:(fun(u:AV) (g:Heap)=>kY (fun _=>True) g u (.fz 0 (ey (t0::tr))))=Q;conv=>whnf
   rw[hb];conv=>whnf
   refine⟨_,_,Ek (s:=8) (bytes:=64) (n:=tr.length) rfl (by omega) (by simp at h;omega) ((xh (k:=k) (nG (t0::tr))).trans (by rw[bB];rfl)) (Gs (t0::tr)),?_⟩;conv=>whnf
   subst hQ;exact kB (s:=8) trivial rfl rfl (nG _) (by rw[bB];rfl) (bW _)
theorem Sx{h:Heap}{Q:AV→Heap→Prop}(k:Nat)(T:List Tk)(hk:k=3→T=[])(hT:T.length≤4)(hQ:∀h' s k2,xy h' s 0 .aH k2 T []→h.next≤s→Fr h h' []→Q (.cD [.ptr s 0,.int .i64 0]) h'):VD fs ms 38 [.fz k (ey T)] h Q:=by
 obtain⟨k2,Gw⟩:=Bb k T hk (by omega);refine ak (af:=Wk) true rfl (Nat.le_of_ble_eq_true rfl) ?_;conv=>whnf
 refine qm (by rw[bB];simp;omega) (fun hc=>?_)
 (try rw[hc])
 conv=>whnf
 refine aO Gw ?_;conv=>whnf
 exact hQ _ _ k2 ⟨Nat.lt_succ_self _,ai,.inl ⟨rfl,rfl⟩,by simp[gL]⟩ (Nat.le_refl _) ((Fr.refl h []).new)
def Tu(s q k:Nat)(T:List Tk)(gv jv:AV):ck:=.cells [.ptr s 0,.ptr q 0,.fz k (ey T),gv,jv] true 0
def J0:Option Nat→AV
 |none=>.bq
 |some b=>.ptr b 0
theorem Im{T:List Tk}{t:Int}(h:eR T t=0):∃i:Nat,t=i∧i<T.length:=by
 by_cases h1:t<0
 ·rw[eR,decide_eq_true h1,Bool.true_or,if_pos rfl] at h;exact absurd h (by decide)
 ·by_cases h2:t≥(T.length:Nat)
  ·rw[eR,decide_eq_true h2,Bool.or_true,if_pos rfl] at h;exact absurd h (by decide)
  ·exact⟨t.toNat,by omega,by omega⟩
section
variable {h:Heap} {r s q k:Nat} {T:List Tk} {gv jv:AV} {Q:AV→Heap→Prop}
theorem tc(hr:h.get r=some (Tu s q k T gv jv))(hQ:Q (.bool false) h):VD fs ms 49 [.ptr r 0] h Q:=by
 refine ak (af:=Wx) true rfl (Nat.le_of_ble_eq_true rfl) ?_;conv=>whnf
 repeat(first|(refine⟨_,bU hr rfl,?_⟩;conv=>whnf))
 exact hQ
theorem Fw{t:Int}(hr:h.get r=some (Tu s q k T gv jv))(hQ:Q (.int .i64 (eR T t)) h):VD fs ms 94 [.ptr r 0,.int .i64 t] h Q:=by
 refine ak (af:=WR) true rfl (Nat.le_of_ble_eq_true rfl) ?_;conv=>whnf
 refine tc hr ?_;conv=>whnf
 refine br (fun hc=>?_) (fun hc=>?_)<;>(try rw[hc])<;>(conv=>whnf)
 ·rw[eR,hc] at hQ;exact hQ
 have c1:=hc;repeat(first|(refine⟨_,bU hr rfl,?_⟩;conv=>whnf))
 rw[bB];refine br (fun hc=>?_) (fun hc=>?_)<;>(try rw[hc])<;>(conv=>whnf)
 ·rw[eR,c1,hc] at hQ;exact hQ
 ·rw[eR,c1,hc] at hQ;exact hQ
theorem Ss{t:Int}{J:Nat}{js:List (Option Nat)}(hr:h.get r=some (Tu s q k T gv (.sl J 0 js.length js.length false)))(hj:h.get J=some (.cells (js.map J0) true 0))(hn:js.length=T.length)
  (h0:eR T t≠0→Q (.cD [.bq,.int .i64 (eR T t)]) h)(h1:∀i (hi:i<js.length),t=((i:Nat):Int)→js[i]=none→Q (.cD [.bq,.int .i64 250]) h)
  (h2:∀i (hi:i<js.length) b,t=((i:Nat):Int)→js[i]=some b→Q (.cD [.ptr b 0,.int .i64 0]) h):VD fs ms 46 [.ptr r 0,.int .i64 t] h Q:=by
 refine ak (af:=Wu) true rfl (Nat.le_of_ble_eq_true rfl) ?_;conv=>whnf
 refine Fw hr ?_;conv=>whnf
 refine br (fun hc=>?_) (fun hc=>?_)<;>(try rw[hc])<;>(conv=>whnf)
 ·exact h0 (by simpa using hc)
 have ha:eR T t=0:=by simpa using hc
 obtain⟨i,rfl,hi⟩:=Im ha;have hi2:i<js.length:=by omega
 have hg:(js.map J0)[i*1]?=some (J0 js[i]):=by rw[Nat.mul_one,List.getElem?_map,List.getElem?_eq_getElem hi2];rfl
 repeat(first|(refine⟨_,bU hr rfl,?_⟩;conv=>whnf)|(refine⟨_,bL hi2,?_⟩;conv=>whnf)|(refine⟨_,bU hj hg,?_⟩;conv=>whnf))
 cases hb:js[i] with
 |none=>
  conv=>whnf
  exact h1 i hi2 rfl hb
 |some b=>
  conv=>whnf
  repeat(first|(refine⟨_,bU hr rfl,?_⟩;conv=>whnf)|(refine⟨_,bL hi2,?_⟩;conv=>whnf)|(refine⟨_,bU hj hg,?_⟩;conv=>whnf))
  rw[hb];exact h2 i hi2 b rfl hb
end
structure Kc(h h':Heap)(col aK:Nat→Nat)(K:Nat→Prop):Prop where
 next:h.next≤h'.next
 keep:∀c,c<h.next→¬K (col c)→h'.get c=h.get c
 col:∀c,c<h.next→aK c=col c
def dg(col:Nat→Nat)(n i:Nat):Nat→Nat:=fun c=>if c<n then col c else i
theorem cJ{col:Nat→Nat}{n i c:Nat}(h:c<n):dg col n i c=col c:=if_pos h
theorem dL{col:Nat→Nat}{n i c:Nat}(h:n≤c):dg col n i c=i:=if_neg (by omega)
section
variable {h h1 h2:Heap} {col iL xH:Nat→Nat} {K K':Nat→Prop}
theorem Kc.refl(h:Heap)(col:Nat→Nat)(K:Nat→Prop):Kc h h col col K:=⟨Nat.le_refl _,fun _ _ _=>rfl,fun _ _=>rfl⟩
theorem Kc.trans(a:Kc h h1 col iL K)(b:Kc h1 h2 iL xH K):Kc h h2 col xH K:=
 ⟨Nat.le_trans a.next b.next,fun c hc hn=>(b.keep c (Nat.lt_of_lt_of_le hc a.next) (by rw[a.col c hc];exact hn)).trans (a.keep c hc hn),fun c hc=>(b.col c (Nat.lt_of_lt_of_le hc a.next)).trans (a.col c hc)⟩
theorem Kc.wk(a:Kc h h1 col iL K)(hK:∀n,K n→K' n):Kc h h1 col iL K':=⟨a.next,fun c hc hn=>a.keep c hc (fun hk=>hn (hK _ hk)),a.col⟩
theorem Kc.of{bs:List Nat}{i:Nat}(f:Fr h h1 bs)(hb:∀c,c∈bs→c<h.next→col c=i):Kc h h1 col (dg col h.next i) (· =i):=
 ⟨f.next,fun c hc hn=>f.keep c hc (fun hm=>hn (hb c hm hc)),fun c hc=>cJ hc⟩
theorem Kc.nil(f:Fr h h1 [])(i:Nat):Kc h h1 col (dg col h.next i) K:=
 ⟨f.next,fun c hc hn=>f.keep c hc (by simp),fun c hc=>cJ hc⟩
theorem Kc.same(f:Fr h h1 []):Kc h h1 col col K:=⟨f.next,fun c hc hn=>f.keep c hc (by simp),fun c hc=>rfl⟩
end
structure Rec(h:Heap)(col:Nat→Nat)(r s q k:Nat)(T:List Tk)(gv:AV)(J n:Nat):Prop where
 lt:r<h.next
 co:col r=1
 get:h.get r=some (Tu s q k T gv (.sl J 0 n n false))
def SQ(h:Heap)(col:Nat→Nat)(s k:Nat)(T:List Tk)(L:List En):Prop:=∃E v,xy h s E v k T L∧∀c,c∈s::gL E v→col c=2
def SP(h:Heap)(col:Nat→Nat)(q:Nat)(n:Int)(D:List Id):Prop:=∃S,ye h q S n D∧∀c,c∈S→col c=3
abbrev Ws:=List (Option (Nat×Jb))
def XJ(w:Option (Nat×Jb)):AV:=J0 (w.map Prod.fst)
structure WX(h:Heap)(col:Nat→Nat)(J:Nat)(ws:Ws):Prop where
 lt:J<h.next
 co:col J=4
 get:h.get J=some (.cells ((ws.map (Option.map Prod.fst)).map J0) true 0)
def MK(h:Heap)(col:Nat→Nat)(i b:Nat)(j:Jb):Prop:=∃p C o v,JP h b p C o v j∧C<h.next∧col b=10+i∧col p=10+i∧col C=10+i
structure WW(h:Heap)(col:Nat→Nat)(gv:AV)(gs:List (Nat×Int))(T:List Tk):Prop where
 row:gs=[]∨∃G op es,gv=.sl G 0 gs.length gs.length op∧G<h.next∧col G=5∧h.get G=some (.cells (gs.map fun g=>.ptr g.1 0) true es)
 all:∀i g t,gs[i]?=some g→T[i]?=some t→t.p≠0∧g.1<h.next∧col g.1=20+i∧h.get g.1=some (gB t.p g.2)
section
variable {h h':Heap} {col aK:Nat→Nat} {K:Nat→Prop}
theorem Rec.keep{r s q k J n:Nat}{T:List Tk}{gv:AV}(R:Rec h col r s q k T gv J n)(f:Kc h h' col aK K)(hK:¬K 1):Rec h' aK r s q k T gv J n:=
 ⟨Nat.lt_of_lt_of_le R.lt f.next,(f.col r R.lt).trans R.co,(f.keep r R.lt (by rw[R.co];exact hK)).trans R.get⟩
theorem SQ.keep{s k:Nat}{T:List Tk}{L:List En}(R:SQ h col s k T L)(f:Kc h h' col aK K)(hK:¬K 2):SQ h' aK s k T L:=by
 obtain⟨E,v,S,hc⟩:=R;have hs:=hc s (by simp);refine⟨E,v,S.yR f.next (f.keep s S.lt (by rw[hs];exact hK)) (fun c h1 h2=>f.keep c h2 (by rw[hc c (by simp[h1])];exact hK)),fun c h1=>?_⟩;rcases List.mem_cons.1 h1 with rfl|h2
 ·rw[f.col _ S.lt,hs]
 ·rw[f.col c (uj S.en h2),hc c h1]
theorem SP.keep{q:Nat}{n:Int}{D:List Id}(R:SP h col q n D)(f:Kc h h' col aK K)(hK:¬K 3):SP h' aK q n D:=by
 obtain⟨S,hq,hc⟩:=R;have ho:=hq.own;refine⟨S,hq.keep (T:=(List.range h.next).filter fun c=>decide (col c≠3)) ⟨f.next,fun c h1 h2=>f.keep c h1 ?_⟩ ?_,fun c h1=>by rw[f.col c (ho c h1),hc c h1]⟩
 ·intro hk;apply h2;rw[List.mem_filter,List.mem_range,decide_eq_true_eq];exact⟨h1,fun e=>hK (e▸hk)⟩
 ·intro b hb hm;rw[List.mem_filter,decide_eq_true_eq] at hm;exact hm.2 (hc b hb)
theorem WX.keep{J:Nat}{ws:Ws}(R:WX h col J ws)(f:Kc h h' col aK K)(hK:¬K 4):WX h' aK J ws:=
 ⟨Nat.lt_of_lt_of_le R.lt f.next,(f.col J R.lt).trans R.co,(f.keep J R.lt (by rw[R.co];exact hK)).trans R.get⟩
theorem MK.keep{i b:Nat}{j:Jb}(R:MK h col i b j)(f:Kc h h' col aK K)(hK:¬K (10+i)):MK h' aK i b j:=by
 obtain⟨p,C,o,v,J,hC,c1,c2,c3⟩:=R;have hp:=J.rw.lt;refine⟨p,C,o,v,⟨Nat.lt_of_lt_of_le J.lt f.next,(f.keep b J.lt (by rw[c1];exact hK)).trans J.st,⟨Nat.lt_of_lt_of_le hp f.next,J.rw.ne,(f.keep p hp (by rw[c2];exact hK)).trans J.rw.st,?_⟩,J.n1,J.n2⟩,Nat.lt_of_lt_of_le hC f.next,by rw[f.col b J.lt,c1],by rw[f.col p hp,c2],by rw[f.col C hC,c3]⟩;have hr:=J.rw.row;cases hl:j.l with
 |nil=>rw[hl] at hr;exact hr
 |cons x l=>
  rw[hl] at hr;obtain⟨u,cs,e,h1,h2,h3⟩:=hr;exact⟨u,cs,e,Nat.lt_of_lt_of_le h1 f.next,(f.keep C hC (by rw[c3];exact hK)).trans h2,h3⟩
theorem WW.keep{gv:AV}{gs:List (Nat×Int)}{T:List Tk}(R:WW h col gv gs T)(f:Kc h h' col aK K)(hK:¬K 5)(Uh:∀i,i<gs.length→¬K (20+i)):WW h' aK gv gs T:=by
 refine⟨?_,fun i g t hg ht=>?_⟩
 ·rcases R.row with h|⟨G,op,es,h1,h2,h3,h4⟩
  ·exact .inl h
  ·exact .inr ⟨G,op,es,h1,Nat.lt_of_lt_of_le h2 f.next,by rw[f.col G h2,h3],(f.keep G h2 (by rw[h3];exact hK)).trans h4⟩
 ·obtain⟨h1,h2,h3,h4⟩:=R.all i g t hg ht;exact⟨h1,Nat.lt_of_lt_of_le h2 f.next,by rw[f.col _ h2,h3],(f.keep _ h2 (by rw[h3];exact Uh i (List.getElem?_eq_some_iff.1 hg).1)).trans h4⟩
end
structure rz(h:Heap)(col:Nat→Nat)(r s q k J:Nat)(gv:AV)(D:List Id)(ws:Ws)(gs:List (Nat×Int))(T:List Tk)(L:List En):Prop where
 n4:T.length≤4
 tl:ws.length=T.length
 gl:gs.length=T.length
 oT:Rec h col r s q k T gv J ws.length
 stk:∃k2,SQ h col s k2 T L
 Ou:SP h col q T.length D
 CD:WX h col J ws
 xU:∀i w,ws[i]?=some (some w)→MK h col i w.1 w.2
 Lo:WW h col gv gs T
section
variable {h h':Heap} {col aK:Nat→Nat} {K:Nat→Prop} {r s q k J:Nat} {gv:AV} {D:List Id} {ws:Ws} {gs:List (Nat×Int)} {T:List Tk} {L:List En}
theorem rz.len(R:rz h col r s q k J gv D ws gs T L){i:Nat}{w:Option (Nat×Jb)}(hw:ws[i]?=some w):i<4:=by
 have:=(List.getElem?_eq_some_iff.1 hw).1;have:=R.tl;have:=R.n4;omega
theorem rz.keep(R:rz h col r s q k J gv D ws gs T L)(f:Kc h h' col aK K)(hK:∀n,1≤n→n<30→¬K n)(Uh:∀i,i<4→¬K (20+i)):rz h' aK r s q k J gv D ws gs T L:=
 ⟨R.n4,R.tl,R.gl,R.oT.keep f (hK 1 (by omega) (by omega)),R.stk.imp fun _ h=>h.keep f (hK 2 (by omega) (by omega)),R.Ou.keep f (hK 3 (by omega) (by omega)),R.CD.keep f (hK 4 (by omega) (by omega)),
  fun i w hw=>(R.xU i w hw).keep f (hK _ (by omega) (by have:=R.len hw;omega)),R.Lo.keep f (hK 5 (by omega) (by omega)) (fun i hi=>Uh i (by have:=R.gl;have:=R.n4;omega))⟩
theorem rz.nil(R:rz h col r s q k J gv D ws gs T L)(f:Fr h h' []):rz h' col r s q k J gv D ws gs T L:=
 R.keep (K:=fun _=>False) (Kc.same f) (fun _ _ _ h=>h) (fun _ _ h=>h)
theorem rz.Sy{L':List En}{k2:Nat}(R:rz h col r s q k J gv D ws gs T L)(f:Kc h h' col aK (· =2))(S:SQ h' aK s k2 T L'):rz h' aK r s q k J gv D ws gs T L':=
 ⟨R.n4,R.tl,R.gl,R.oT.keep f (by decide),⟨k2,S⟩,R.Ou.keep f (by decide),R.CD.keep f (by decide),fun i w hw=>(R.xU i w hw).keep f (by omega),R.Lo.keep f (by decide) (by intro i _;omega)⟩
theorem rz.VL{D':List Id}(R:rz h col r s q k J gv D ws gs T L)(f:Kc h h' col aK (· =3))(S:SP h' aK q T.length D'):rz h' aK r s q k J gv D' ws gs T L:=
 ⟨R.n4,R.tl,R.gl,R.oT.keep f (by decide),R.stk.imp fun _ h=>h.keep f (by decide),S,R.CD.keep f (by decide),fun i w hw=>(R.xU i w hw).keep f (by omega),R.Lo.keep f (by decide) (by intro i _;omega)⟩
theorem rz.GM{i b:Nat}{j j':Jb}(R:rz h col r s q k J gv D ws gs T L)(hw:ws[i]?=some (some (b,j)))(f:Kc h h' col aK (· =10+i))(S:MK h' aK i b j'):rz h' aK r s q k J gv D (ws.set i (some (b,j'))) gs T L:=by
 have hi:=R.len hw;have hl:=(List.getElem?_eq_some_iff.1 hw).1;have e:(ws.set i (some (b,j'))).map (Option.map Prod.fst)=ws.map (Option.map Prod.fst):=by
  apply List.ext_getElem?;intro n;rw[List.getElem?_map,List.getElem?_map,List.getElem?_set];by_cases e:i=n
  ·subst e;rw[if_pos rfl,if_pos hl,hw];rfl
  ·rw[if_neg e]
 refine⟨R.n4,by rw[List.length_set];exact R.tl,R.gl,?_,R.stk.imp fun _ h=>h.keep f (by omega),R.Ou.keep f (by omega),?_,fun n w hn=>?_,R.Lo.keep f (by omega) (by intro i _;omega)⟩
 ·rw[List.length_set];exact R.oT.keep f (by omega)
 ·obtain⟨a1,a2,a3⟩:=R.CD.keep f (by omega);exact⟨a1,a2,by rw[e];exact a3⟩
 ·rw[List.getElem?_set] at hn;by_cases e:i=n
  ·subst e;rw[if_pos rfl,if_pos hl] at hn;cases hn
   exact S
  ·rw[if_neg e] at hn;exact(R.xU n w hn).keep f (by omega)
end
structure St where
 T:List Tk
 L:List En
 j:List (Option Jb)
 g:List Int
def wj(ws:Ws):List (Option Jb):=ws.map (Option.map Prod.snd)
def RA(h:Heap)(col:Nat→Nat)(r:Nat)(st:St):Prop:=∃s q k J gv D ws gs,rz h col r s q k J gv D ws gs st.T st.L∧st.j=wj ws∧st.g=gs.map Prod.snd∧
 (∀y:Id,y∈D↔∃j,st.j[y.1]?=some (some j)∧y.2=j.e)∧∀(i:Nat) (j:Jb),st.j[i]?=some (some j)→j.l.length≤32
def RK(n:Nat):Prop:=1≤n∧n<100
theorem RA.keep{h h':Heap}{col aK:Nat→Nat}{K:Nat→Prop}{r:Nat}{st:St}(R:RA h col r st)(f:Kc h h' col aK K)(hK:∀n,1≤n→n<30→¬K n)(Uh:∀i,i<4→¬K (20+i)):RA h' aK r st:=by
 obtain⟨s,q,k,J,gv,D,ws,gs,R,h1,h2,h3,h4⟩:=R;exact⟨s,q,k,J,gv,D,ws,gs,R.keep f hK Uh,h1,h2,h3,h4⟩
theorem RA.nil{h h':Heap}{col:Nat→Nat}{r:Nat}{st:St}(R:RA h col r st)(f:Fr h h' []):RA h' col r st:=
 R.keep (K:=fun _=>False) (Kc.same f) (fun _ _ _ h=>h) (fun _ _ h=>h)
theorem hU{ws:Ws}{i:Nat}{b:Nat}{j:Jb}(h:ws[i]?=some (some (b,j))):(wj ws)[i]?=some (some j):=by rw[wj,List.getElem?_map,h];rfl
theorem FN{ws:Ws}{i:Nat}(h:ws[i]?=some none):(wj ws)[i]?=some none:=by rw[wj,List.getElem?_map,h];rfl
theorem FO{ws:Ws}{i:Nat}{j:Jb}(h:(wj ws)[i]?=some (some j)):∃b,ws[i]?=some (some (b,j)):=by
 rw[wj,List.getElem?_map] at h;cases hw:ws[i]? with
 |none=>rw[hw] at h;cases h
 |some o=>
  rw[hw] at h;cases o with
  |none=>cases h
  |some w=>cases h;exact⟨w.1,rfl⟩
theorem Lg{ws:Ws}{i b:Nat}{j:Jb}:wj (ws.set i (some (b,j)))=(wj ws).set i (some j):=by rw[wj,wj,List.map_set];rfl
theorem RA.GM{h h':Heap}{col aK:Nat→Nat}{r s q k J i b:Nat}{gv:AV}{D:List Id}{ws:Ws}{gs:List (Nat×Int)}{st:St}{j j':Jb}(R:rz h col r s q k J gv D ws gs st.T st.L)(h1:st.j=wj ws)(h2:st.g=gs.map Prod.snd)
  (h3:∀y:Id,y∈D↔∃j,st.j[y.1]?=some (some j)∧y.2=j.e)(h4:∀(i:Nat) (j:Jb),st.j[i]?=some (some j)→j.l.length≤32)(hw:ws[i]?=some (some (b,j)))(f:Kc h h' col aK (· =10+i))(S:MK h' aK i b j')(he:j'.e=j.e)(hl:j'.l.length≤32):
  RA h' aK r {st with j:=st.j.set i (some j')}:=by
 have hi:=(List.getElem?_eq_some_iff.1 hw).1;have hj:st.j[i]?=some (some j):=by rw[h1];exact hU hw
 have Jp:=(List.getElem?_eq_some_iff.1 hj).1;refine⟨s,q,k,J,gv,D,_,gs,R.GM hw f S,by rw[Lg,←h1],h2,fun y=>?_,fun n jn hn=>?_⟩
 ·rw[h3 y];show _↔∃j,(st.j.set i (some j'))[y.1]?=some (some j)∧y.2=j.e;rw[List.getElem?_set];by_cases e:i=y.1
  ·rw[if_pos e,if_pos Jp,←e,hj];constructor
   ·rintro⟨a,ha,hb⟩;cases ha
    exact⟨_,rfl,hb.trans he.symm⟩
   ·rintro⟨a,ha,hb⟩;cases ha
    exact⟨_,rfl,hb.trans he⟩
  ·rw[if_neg e]
 ·have hn:(st.j.set i (some j'))[n]?=some (some jn):=hn;rw[List.getElem?_set] at hn;by_cases e:i=n
  ·rw[if_pos e,if_pos Jp] at hn;cases hn
   exact hl
  ·rw[if_neg e] at hn;exact h4 n jn hn
end Ir
end Go.Proofs.YtnlcabhfkpafmaaGreat
