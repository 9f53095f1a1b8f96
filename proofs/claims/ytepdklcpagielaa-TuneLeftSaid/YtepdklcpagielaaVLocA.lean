/-
  Local: a partition that is looked at; its slack.
-/
import Derived.Test.YtepdklcpagielaaVSup
import Derived.Test.YtepdklcpagielaaVDel
import Derived.Test.YtepdklcpagielaaVDem
set_option maxRecDepth 100000
set_option linter.unusedSimpArgs false
set_option linter.unusedVariables false
namespace Go.Proofs.Ytepdklcpagielaa
open Go Ads
namespace Ir
def lk(x:Pt)(k:Nat)(l:List Pt)(a:Int)(m:List Int):AV:=.agg [.int .i64 x.cJ,.int .i64 x.cn,.fz x.k (dI x.ts),.fz k (pts l),.int .i64 a,.fz 2 (ints m)]
theorem w7(x:Pt)(k:Nat)(l:List Pt)(a:Int)(m:List Int):(lk x k l a m).cl=true:=by simp[lk,AV.cl,bL,cq,bz,aS]
def Zm:AV:=.agg [.int .i64 0,.int .i64 0,.aD,.aD,.int .i64 0,.aD]
theorem Md(k:Nat)(l:List Int)(hl:l.length<2^62):PC fs ms 110 [.fz k (ints l)] (.int .i64 (mK l)):=by
 refine aX (by simp[bL,AV.cl,aS]) rfl ?_;refine aC (af:=NO) false rfl (Nat.le_of_ble_eq_true rfl) ?_;generalize hQ:(fun(v:AV) (_:Heap)=>v=.int .i64 (mK l))=Q;conv=>whnf
 refine ei 5 [(2,.int .i64 (mK (l.take 0))),(5,.fz k (ints l)),(6,.int .i64 (ints l).length),(7,.int .i64 ((0:Nat):Int))] (by repeat' (first|exact trivial|refine bI rfl (by omega) ?_|refine bg rfl (by omega) ?_|refine aR rfl (by omega) ?_|refine aJ rfl (by first|rfl|simp[bL,AV.cl,aS]) ?_|refine aJ (ay (by omega)) rfl ?_)) ?_;refine fe 5 l.length (fun _=>True) (fun j=>[(2,.int .i64 (mK (l.take j))),(5,.fz k (ints l)),(6,.int .i64 (ints l).length),(7,.int .i64 (j:Nat))]) ?_ ?_ trivial
 ·intro j hj _;conv=>whnf
  refine br (fun hc=>?_) (fun hc=>?_)<;>(try rw[hc])<;>(conv=>whnf)
  ·refine⟨_,jR hj,?_⟩;conv=>whnf
   refine⟨trivial,⟨_,congrArg (fun n=>some (AV.int .i64 n)) ?_,.cl rfl⟩,⟨_,rfl,.cl (by simp[AV.cl,aS])⟩,⟨_,rfl,.cl rfl⟩,⟨_,ay (by omega),.cl rfl⟩,trivial⟩;rw[eY hj];simp only[mK,List.foldl_append];rfl
  ·exfalso;have:=of_decide_eq_false hc;simp only[cu] at this;omega
 ·intro _;conv=>whnf
  refine br (fun hc=>?_) (fun hc=>?_)<;>(try rw[hc])<;>(conv=>whnf)
  ·exfalso;have:=of_decide_eq_true hc;simp only[cu] at this;omega
  ·subst hQ;rw[List.take_length]
theorem PA(k:Nat)(l:List Pt)(a:Int)(hs:Small l)(h:bG l=2):PC fs ms 106 [.fz k (pts l),.int .i64 a] (.cQ [Zm,.int .i64 2]):=by
 refine aX (by simp[bL,AV.cl,bz]) rfl ?_;refine aC (af:=Ie) false rfl (Nat.le_of_ble_eq_true rfl) ?_;generalize hQ:(fun(v:AV) (_:Heap)=>v=.cQ [Zm,.int .i64 2])=Q;conv=>whnf
 refine au (Mh hs h) ?_;conv=>whnf
 subst hQ;rfl
theorem PB(k:Nat)(l:List Pt)(a:Int)(hs:Small l)(h:bG l=0)(ha:a<0∨l.length≤a):PC fs ms 106 [.fz k (pts l),.int .i64 a] (.cQ [Zm,.int .i64 9]):=by
 refine aX (by simp[bL,AV.cl,bz]) rfl ?_;refine aC (af:=Ie) false rfl (Nat.le_of_ble_eq_true rfl) ?_;generalize hQ:(fun(v:AV) (_:Heap)=>v=.cQ [Zm,.int .i64 9])=Q;conv=>whnf
 refine au (Mi hs h ha) ?_;conv=>whnf
 subst hQ;rfl
theorem Te(k:Nat)(l:List Pt)(i:Nat)(hs:Small l)(h:bG l=0)(hi:i<l.length):PC fs ms 106 [.fz k (pts l),.int .i64 (i:Nat)] (.cQ [lk l[i] k l (i:Nat) (pJ l i),.int .i64 0]):=by
 refine aX (by simp[bL,AV.cl,bz]) (by simp[AV.cl,bL,w7]) ?_;refine aC (af:=Ie) false rfl (Nat.le_of_ble_eq_true rfl) ?_;generalize hQ:(fun(v:AV) (_:Heap)=>v=.cQ [lk l[i] k l (i:Nat) (pJ l i),.int .i64 0])=Q;have hm:=PK (k:=k) hs h hi;have rG:=gH (k:=k) hi;generalize pJ l i=M at*;generalize l[i]=x at*;conv=>whnf
 refine au (hm) ?_;conv=>whnf
 refine⟨_,rG,?_⟩;conv=>whnf
 subst hQ;rfl
def wZ(x:Pt)(m:List Int)(n:Int):Int:=(OG x.ts m n).1
def uF(x:Pt)(l:List Pt)(a:Int)(m:List Int)(n:Int):Int:=mK [(EU x.cJ x.cn n).1,IntKind.i64.wrap (0-wZ x m n),IntKind.i64.wrap (0-(xL l a n).1)]
theorem Kq(x:Pt)(k:Nat)(l:List Pt)(a:Int)(m:List Int)(n:Int)(hx:x.ts.length≤17592186044416)(hm:m.length<2^62):PC fs ms 122 [lk x k l a m,.int .i64 n] (.int .i64 (wZ x m n)):=by
 refine aX (by simp[bL,w7];rfl) rfl ?_;refine aC (af:=NZ) false rfl (Nat.le_of_ble_eq_true rfl) ?_;generalize hQ:(fun(v:AV) (_:Heap)=>v=.int .i64 (wZ x m n))=Q;conv=>whnf
 refine au (U5 x.k 2 x.ts m n (by omega) hm) ?_;conv=>whnf
 subst hQ;rfl
theorem Qn(x:Pt)(k:Nat)(l:List Pt)(a:Int)(m:List Int)(n:Int)(hs:Small l)(hx:x.ts.length≤17592186044416)(hm:m.length<2^62):PC fs ms 123 [lk x k l a m,.int .i64 n] (.int .i64 (uF x l a m n)):=by
 refine aX (by simp[bL,w7];rfl) rfl ?_;refine aC (af:=N0) false rfl (Nat.le_of_ble_eq_true rfl) ?_;generalize hQ:(fun(v:AV) (_:Heap)=>v=.int .i64 (uF x l a m n))=Q;conv=>whnf
 refine au (M3 x.cJ x.cn n) ?_;conv=>whnf
 refine au (RJ k l a n hs) ?_;conv=>whnf
 refine au (Kq x k l a m n hx hm) ?_;conv=>whnf
 refine ji (Md 2 [(EU x.cJ x.cn n).1,IntKind.i64.wrap (0-wZ x m n),IntKind.i64.wrap (0-(xL l a n).1)] (by simp)) rfl (.cons (.row (s:=1) trivial rfl (by rfl) (lF _) (by simp[ints]) (Nat.le_refl _) (by omega) (fun _=>rfl) (fun _=>rfl) (aS _)) .nil) ?_;conv=>whnf
 subst hQ;rfl
def adZ(l:List Pt)(a n:Int):Int×Int:=if bG l=2 then(0,2) else if a<0 then(0,9) else match l[a.toNat]? with
 |none=>(0,9)
 |some x=>if n<0∨n>1048576 then(0,2) else(uF x l a (pJ l a.toNat) n,0)
theorem I7{l:List Pt}{i:Nat}(hi:i<l.length):(pJ l i).length=l[i].ts.length:=by
 rw[pJ,List.getElem?_eq_getElem hi];simp
end Ir
end Go.Proofs.Ytepdklcpagielaa
