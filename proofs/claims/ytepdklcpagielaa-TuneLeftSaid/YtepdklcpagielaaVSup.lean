/-
  Supply: how much a server gives.
-/
import Derived.Test.YtepdklcpagielaaVTick
import Derived.Test.YtepdklcpagielaaZA
import Derived.Test.YtepdklcpagielaaVDem
set_option maxRecDepth 100000
set_option linter.unusedSimpArgs false
set_option linter.unusedVariables false
namespace Go.Proofs.Ytepdklcpagielaa
open Go Ads
namespace Ir
theorem RM(a b:Int)(ha:0≤a∧a≤1048576)(hb:1≤b∧b≤4096):PC fs ms 153 [.int .i64 a,.int .i64 b] (.cQ [.int .i64 (a/b),.int .i64 0]):=by
 refine aX rfl rfl ?_;refine aC (af:=Ou) false rfl (Nat.le_of_ble_eq_true rfl) ?_;generalize hQ:(fun(v:AV) (_:Heap)=>v=.cQ [.int .i64 (a/b),.int .i64 0])=Q;have h1:cN a=true:=by simp[cN];omega
 have h2:cN b=true:=by simp[cN];omega
 conv=>whnf
 refine CZ rfl ?_;rw[h1,h2];conv=>whnf
 refine lY (by simp;omega) (fun hc=>?_)
 (try rw[hc])
 conv=>whnf
 refine⟨_,jU a b (by omega),?_⟩;conv=>whnf
 subst hQ;have h3:a.tdiv b=a/b:=Int.tdiv_eq_ediv_of_nonneg ha.1;have h4:=Int.ediv_le_self b ha.1;have h5:0≤a/b:=Int.ediv_nonneg ha.1 (by omega);rw[h3,IntWalk.i64_in _ (by omega)]
def mq(p b:Int):Prop:=1≤p∧p≤64∧1≤b∧b≤p
instance(p b:Int):Decidable (mq p b):=by unfold mq;infer_instance
def qf(p b n:Int):Int:=if n<p-b then 0 else(n-(p-b))/p*b+max 0 (n-(p-b)-(n-(p-b))/p*p-(p-b))
def EU(p b n:Int):Int×Int:=if mq p b∧0≤n∧n≤1048576 then(qf p b n,0) else(0,2)
theorem LN(p b:Int)(h:mq p b):PC fs ms 151 [.agg [.int .i64 p,.int .i64 b]] (.int .i64 (p-b)):=by
 refine aX rfl rfl ?_;refine aC (af:=Oq) false rfl (Nat.le_of_ble_eq_true rfl) ?_;generalize hQ:(fun(v:AV) (_:Heap)=>v=.int .i64 (p-b))=Q;unfold mq at h;have e:IntKind.i64.wrap (p-b)=p-b:=IntWalk.i64_in _ (by omega);conv=>whnf
 subst hQ;rw[e]
theorem Xh(p b:Int):PC fs ms 143 [.int .i64 p,.int .i64 b] (.cQ [.agg [.int .i64 p,.int .i64 b],.bool (decide (mq p b))]):=by
 refine aX rfl rfl ?_;refine aC (af:=Oh) false rfl (Nat.le_of_ble_eq_true rfl) ?_;generalize hQ:(fun(v:AV) (_:Heap)=>v=.cQ [.agg [.int .i64 p,.int .i64 b],.bool (decide (mq p b))])=Q;conv=>whnf
 by_cases h1:1≤p
 ·refine kO (decide_eq_true h1) (fun hc=>?_)
  (try rw[hc])
  conv=>whnf
  by_cases h2:p≤64
  ·refine kO (decide_eq_true h2) (fun hc=>?_)
   (try rw[hc])
   conv=>whnf
   by_cases h3:1≤b
   ·refine kO (decide_eq_true h3) (fun hc=>?_)
    (try rw[hc])
    conv=>whnf
    subst hQ;have:decide (mq p b)=decide (b≤p):=by
     unfold mq;by_cases h4:b≤p<;>simp[h1,h2,h3,h4]
    rw[this];rfl
   ·refine lY (decide_eq_false h3) (fun hc=>?_)
    (try rw[hc])
    conv=>whnf
    subst hQ;rw[decide_eq_false (show¬mq p b from fun z=>h3 z.2.2.1)];rfl
  ·refine lY (decide_eq_false h2) (fun hc=>?_)
   (try rw[hc])
   conv=>whnf
   subst hQ;rw[decide_eq_false (show¬mq p b from fun z=>h2 z.2.1)];rfl
 ·refine lY (decide_eq_false h1) (fun hc=>?_)
  (try rw[hc])
  conv=>whnf
  subst hQ;rw[decide_eq_false (show¬mq p b from fun z=>h1 z.1)];rfl
theorem Tu(a b:Int)(ha:0≤a∧a≤1048576)(hb:1≤b∧b≤4096):PC fs ms 152 [.int .i64 a,.int .i64 b] (.int .i64 (a/b)):=by
 refine aX rfl rfl ?_;refine aC (af:=Ot) false rfl (Nat.le_of_ble_eq_true rfl) ?_;generalize hQ:(fun(v:AV) (_:Heap)=>v=.int .i64 (a/b))=Q;conv=>whnf
 refine au (RM a b ha hb) ?_;conv=>whnf
 subst hQ;rfl
theorem Vj(p b n:Int)(h:mq p b)(h0:0≤n)(hn:n≤1048576):0≤qf p b n∧qf p b n≤n:=by
 unfold mq at h;unfold qf;split
 ·omega
 ·have h1:0≤(n-(p-b))/p:=Int.ediv_nonneg (by omega) (by omega);have h2:=Int.ediv_mul_le (n-(p-b)) (show p≠0 by omega);have h3:(n-(p-b))/p*b≤(n-(p-b))/p*p:=Int.mul_le_mul_of_nonneg_left h.2.2.2 h1;have h4:0≤(n-(p-b))/p*b:=Int.mul_nonneg h1 (by omega);omega
theorem O5(p b n:Int)(h:mq p b)(h0:0≤n)(hn:n≤1048576):PC fs ms 144 [.agg [.int .i64 p,.int .i64 b],.int .i64 n] (.int .i64 (qf p b n)):=by
 refine aX rfl rfl ?_;refine aC (af:=Oi) false rfl (Nat.le_of_ble_eq_true rfl) ?_;generalize hQ:(fun(v:AV) (_:Heap)=>v=.int .i64 (qf p b n))=Q;have h':=h;unfold mq at h';conv=>whnf
 refine au (LN p b h) ?_;conv=>whnf
 by_cases hi:n<p-b
 ·refine kO (decide_eq_true hi) (fun hc=>?_)
  (try rw[hc])
  conv=>whnf
  subst hQ;rw[qf,if_pos hi]
 ·refine lY (decide_eq_false hi) (fun hc=>?_)
  (try rw[hc])
  conv=>whnf
  have e1:IntKind.i64.wrap (n-(p-b))=n-(p-b):=IntWalk.i64_in _ (by omega);have hG:qf p b n=(n-(p-b))/p*b+max 0 (n-(p-b)-(n-(p-b))/p*p-(p-b)):=by rw[qf,if_neg hi]
  have h1:0≤(n-(p-b))/p:=Int.ediv_nonneg (by omega) (by omega);have h2:=Int.ediv_mul_le (n-(p-b)) (show p≠0 by omega);have h3:(n-(p-b))/p*b≤(n-(p-b))/p*p:=Int.mul_le_mul_of_nonneg_left h'.2.2.2 h1;have h4:0≤(n-(p-b))/p*b:=Int.mul_nonneg h1 (by omega);rw[e1];conv=>whnf
  refine au (Tu (n-(p-b)) p (by omega) (by omega)) ?_;conv=>whnf
  rw[e1];generalize(n-(p-b))/p=w at*;have e2:IntKind.i64.wrap (w*b)=w*b:=IntWalk.i64_in _ (by omega);have e3:IntKind.i64.wrap (w*p)=w*p:=IntWalk.i64_in _ (by omega);have e4:IntKind.i64.wrap (n-(p-b)-w*p)=n-(p-b)-w*p:=IntWalk.i64_in _ (by omega);have e5:IntKind.i64.wrap (n-(p-b)-w*p-(p-b))=n-(p-b)-w*p-(p-b):=IntWalk.i64_in _ (by omega);rw[e2,e3,e4];conv=>whnf
  refine au (LN p b h) ?_;conv=>whnf
  refine⟨dc (by(conv=>whnf);repeat' (first|exact trivial|(exact⟨rfl,rfl,.inr ⟨_,_,rfl⟩⟩)|(refine⟨rfl,rfl,.inl ⟨rfl,fun o ho=>?_⟩⟩;cases ho;first|rfl)|(exact⟨rfl,.inr ⟨_,_,rfl⟩⟩)|(refine⟨rfl,.inl ⟨rfl,fun i o hi ho=>?_⟩⟩;cases hi;cases ho;first|rfl)|(refine And.intro (fun dZ=>(Bool.false_ne_true dZ).elim) ?_<;>conv=>whnf)|(refine And.intro (fun _=>?_) ?_<;>conv=>whnf)|(refine And.intro ?_ ?_<;>conv=>whnf))),?_⟩;conv=>whnf
  subst hQ;show AV.int .i64 (IntKind.i64.wrap _)=_;rw[hG,e5];by_cases hm:n-(p-b)-w*p-(p-b)>0
  ·rw[decide_eq_true hm,cond_true,IntWalk.i64_in _ (by omega)]
   congr 1
   omega
  ·rw[decide_eq_false hm,cond_false,IntWalk.i64_in _ (by omega)]
   congr 1
   omega
theorem M3(p b n:Int):PC fs ms 135 [.int .i64 p,.int .i64 b,.int .i64 n] (qO (EU p b n)):=by
 refine aX rfl rfl ?_;refine aC (af:=Ob) false rfl (Nat.le_of_ble_eq_true rfl) ?_;generalize hQ:(fun(v:AV) (_:Heap)=>v=qO (EU p b n))=Q;conv=>whnf
 refine au (Xh p b) ?_;conv=>whnf
 by_cases h:mq p b
 ·rw[decide_eq_true h];conv=>whnf
  by_cases h0:n<0
  ·refine kO (decide_eq_true h0) (fun hc=>?_)
   (try rw[hc])
   conv=>whnf
   subst hQ;rw[EU,if_neg (by omega)];rfl
  ·refine lY (decide_eq_false h0) (fun hc=>?_)
   (try rw[hc])
   conv=>whnf
   by_cases h1:n>1048576
   ·refine kO (decide_eq_true h1) (fun hc=>?_)
    (try rw[hc])
    conv=>whnf
    subst hQ;rw[EU,if_neg (by omega)];rfl
   ·refine lY (decide_eq_false h1) (fun hc=>?_)
    (try rw[hc])
    conv=>whnf
    refine au (O5 p b n h (by omega) (by omega)) ?_;conv=>whnf
    subst hQ;rw[EU,if_pos ⟨h,by omega,by omega⟩];rfl
 ·rw[decide_eq_false h];conv=>whnf
  subst hQ;rw[EU,if_neg (fun z=>h z.1)];rfl
end Ir
end Go.Proofs.Ytepdklcpagielaa
