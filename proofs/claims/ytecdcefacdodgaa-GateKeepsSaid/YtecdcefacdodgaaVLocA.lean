/-
  Local: a partition that is looked at; its slack.
-/
import Derived.Test.YtecdcefacdodgaaVSup
import Derived.Test.YtecdcefacdodgaaVDel
import Derived.Test.YtecdcefacdodgaaVDem
set_option maxRecDepth 100000
set_option linter.unusedSimpArgs false
set_option linter.unusedVariables false
namespace Go.Proofs.Ytecdcefacdodgaa
open Go Ads
namespace Ir
def lk(x:Pt)(k:Nat)(l:List Pt)(a:Int)(m:List Int):AV:=.agg [.int .i64 x.bV,.int .i64 x.cE,.fz x.k (fQ x.ts),.fz k (pts l),.int .i64 a,.fz 2 (ints m)]
theorem tZ(x:Pt)(k:Nat)(l:List Pt)(a:Int)(m:List Int):(lk x k l a m).cl=true:=by simp[lk,AV.cl,bn,bJ,aS,aE]
def TN:AV:=.agg [.int .i64 0,.int .i64 0,.aq,.aq,.int .i64 0,.aq]
theorem Je(k:Nat)(l:List Int)(hl:l.length<2^62):PC fs ms 87 [.fz k (ints l)] (.int .i64 (jX l)):=by
 refine bq (by simp[bn,AV.cl,aE]) rfl ?_;refine aA (af:=Tf) false rfl (Nat.le_of_ble_eq_true rfl) ?_;generalize hQ:(fun(v:AV) (_:Heap)=>v=.int .i64 (jX l))=Q;conv=>whnf
 refine dy 5 [(2,.int .i64 (jX (l.take 0))),(5,.fz k (ints l)),(6,.int .i64 (ints l).length),(7,.int .i64 ((0:Nat):Int))] (by repeat' (first|exact trivial|refine bt rfl (by omega) ?_|refine aV rfl (by omega) ?_|refine aJ rfl (by omega) ?_|refine aC rfl (by first|rfl|simp[bn,AV.cl,aE]) ?_|refine aC (au (by omega)) rfl ?_)) ?_;refine fH 5 l.length (fun _=>True) (fun j=>[(2,.int .i64 (jX (l.take j))),(5,.fz k (ints l)),(6,.int .i64 (ints l).length),(7,.int .i64 (j:Nat))]) ?_ ?_ trivial
 ·intro j hj _;conv=>whnf
  refine br (fun hc=>?_) (fun hc=>?_)<;>(try rw[hc])<;>(conv=>whnf)
  ·refine⟨_,gX hj,?_⟩;conv=>whnf
   refine⟨trivial,⟨_,congrArg (fun n=>some (AV.int .i64 n)) ?_,.cl rfl⟩,⟨_,rfl,.cl (by simp[AV.cl,aE])⟩,⟨_,rfl,.cl rfl⟩,⟨_,au (by omega),.cl rfl⟩,trivial⟩;rw[eG hj];simp only[jX,List.foldl_append];rfl
  ·exfalso;have:=of_decide_eq_false hc;simp only[aT] at this;omega
 ·intro _;conv=>whnf
  refine br (fun hc=>?_) (fun hc=>?_)<;>(try rw[hc])<;>(conv=>whnf)
  ·exfalso;have:=of_decide_eq_true hc;simp only[aT] at this;omega
  ·subst hQ;rw[List.take_length]
theorem Mr(k:Nat)(l:List Pt)(a:Int)(hs:Small l)(h:aB l=2):PC fs ms 83 [.fz k (pts l),.int .i64 a] (.cC [TN,.int .i64 2]):=by
 refine bq (by simp[bn,AV.cl,aS]) rfl ?_;refine aA (af:=Qe) false rfl (Nat.le_of_ble_eq_true rfl) ?_;generalize hQ:(fun(v:AV) (_:Heap)=>v=.cC [TN,.int .i64 2])=Q;conv=>whnf
 refine ai (Ji hs h) ?_;conv=>whnf
 subst hQ;rfl
theorem Ms(k:Nat)(l:List Pt)(a:Int)(hs:Small l)(h:aB l=0)(ha:a<0∨l.length≤a):PC fs ms 83 [.fz k (pts l),.int .i64 a] (.cC [TN,.int .i64 9]):=by
 refine bq (by simp[bn,AV.cl,aS]) rfl ?_;refine aA (af:=Qe) false rfl (Nat.le_of_ble_eq_true rfl) ?_;generalize hQ:(fun(v:AV) (_:Heap)=>v=.cC [TN,.int .i64 9])=Q;conv=>whnf
 refine ai (Jj hs h ha) ?_;conv=>whnf
 subst hQ;rfl
theorem Pz(k:Nat)(l:List Pt)(i:Nat)(hs:Small l)(h:aB l=0)(hi:i<l.length):PC fs ms 83 [.fz k (pts l),.int .i64 (i:Nat)] (.cC [lk l[i] k l (i:Nat) (cO l i),.int .i64 0]):=by
 refine bq (by simp[bn,AV.cl,aS]) (by simp[AV.cl,bn,tZ]) ?_;refine aA (af:=Qe) false rfl (Nat.le_of_ble_eq_true rfl) ?_;generalize hQ:(fun(v:AV) (_:Heap)=>v=.cC [lk l[i] k l (i:Nat) (cO l i),.int .i64 0])=Q;have hm:=Mz (k:=k) hs h hi;have r7:=lD (k:=k) hi;generalize cO l i=M at*;generalize l[i]=x at*;conv=>whnf
 refine ai (hm) ?_;conv=>whnf
 refine⟨_,r7,?_⟩;conv=>whnf
 subst hQ;rfl
def l9(x:Pt)(m:List Int)(n:Int):Int:=(LA x.ts m n).1
def j9(x:Pt)(l:List Pt)(a:Int)(m:List Int)(n:Int):Int:=jX [(xZ x.bV x.cE n).1,IntKind.i64.wrap (0-l9 x m n),IntKind.i64.wrap (0-(qX l a n).1)]
theorem Hv(x:Pt)(k:Nat)(l:List Pt)(a:Int)(m:List Int)(n:Int)(hx:x.ts.length≤17592186044416)(hm:m.length<2^62):PC fs ms 117 [lk x k l a m,.int .i64 n] (.int .i64 (l9 x m n)):=by
 refine bq (by simp[bn,tZ];rfl) rfl ?_;refine aA (af:=KS) false rfl (Nat.le_of_ble_eq_true rfl) ?_;generalize hQ:(fun(v:AV) (_:Heap)=>v=.int .i64 (l9 x m n))=Q;conv=>whnf
 refine ai (Q1 x.k 2 x.ts m n (by omega) hm) ?_;conv=>whnf
 subst hQ;rfl
theorem MU(x:Pt)(k:Nat)(l:List Pt)(a:Int)(m:List Int)(n:Int)(hs:Small l)(hx:x.ts.length≤17592186044416)(hm:m.length<2^62):PC fs ms 118 [lk x k l a m,.int .i64 n] (.int .i64 (j9 x l a m n)):=by
 refine bq (by simp[bn,tZ];rfl) rfl ?_;refine aA (af:=KT) false rfl (Nat.le_of_ble_eq_true rfl) ?_;generalize hQ:(fun(v:AV) (_:Heap)=>v=.int .i64 (j9 x l a m n))=Q;conv=>whnf
 refine ai (Kc x.bV x.cE n) ?_;conv=>whnf
 refine ai (N5 k l a n hs) ?_;conv=>whnf
 refine ai (Hv x k l a m n hx hm) ?_;conv=>whnf
 refine ja (Je 2 [(xZ x.bV x.cE n).1,IntKind.i64.wrap (0-l9 x m n),IntKind.i64.wrap (0-(qX l a n).1)] (by simp)) rfl (.cons (.row (s:=1) trivial rfl (by rfl) (jA _) (by simp[ints]) (Nat.le_refl _) (by omega) (fun _=>rfl) (fun _=>rfl) (aE _)) .nil) ?_;conv=>whnf
 subst hQ;rfl
def XQ(l:List Pt)(a n:Int):Int×Int:=if aB l=2 then(0,2) else if a<0 then(0,9) else match l[a.toNat]? with
 |none=>(0,9)
 |some x=>if n<0∨n>1048576 then(0,2) else(j9 x l a (cO l a.toNat) n,0)
theorem m6{l:List Pt}{i:Nat}(hi:i<l.length):(cO l i).length=l[i].ts.length:=by
 rw[cO,List.getElem?_eq_getElem hi];simp
end Ir
end Go.Proofs.Ytecdcefacdodgaa
