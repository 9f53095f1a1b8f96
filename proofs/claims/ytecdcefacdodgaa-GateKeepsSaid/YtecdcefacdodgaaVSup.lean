/-
  Supply: how much a server gives.
-/
import Derived.Test.YtecdcefacdodgaaVTick
import Derived.Test.YtecdcefacdodgaaZA
import Derived.Test.YtecdcefacdodgaaVDem
set_option maxRecDepth 100000
set_option linter.unusedSimpArgs false
set_option linter.unusedVariables false
namespace Go.Proofs.Ytecdcefacdodgaa
open Go Ads
namespace Ir
theorem N9(a b:Int)(ha:0≤a∧a≤1048576)(hb:1≤b∧b≤4096):PC fs ms 171 [.int .i64 a,.int .i64 b] (.cC [.int .i64 (a/b),.int .i64 0]):=by
 refine bq rfl rfl ?_;refine aA (af:=Lo) false rfl (Nat.le_of_ble_eq_true rfl) ?_;generalize hQ:(fun(v:AV) (_:Heap)=>v=.cC [.int .i64 (a/b),.int .i64 0])=Q;have h1:bS a=true:=by simp[bS];omega
 have h2:bS b=true:=by simp[bS];omega
 conv=>whnf
 refine Ax rfl ?_;rw[h1,h2];conv=>whnf
 refine fO (by simp;omega) (fun hc=>?_)
 (try rw[hc])
 conv=>whnf
 refine⟨_,jK a b (by omega),?_⟩;conv=>whnf
 subst hQ;have h3:a.tdiv b=a/b:=Int.tdiv_eq_ediv_of_nonneg ha.1;have h4:=Int.ediv_le_self b ha.1;have h5:0≤a/b:=Int.ediv_nonneg ha.1 (by omega);rw[h3,IntWalk.i64_in _ (by omega)]
def iV(p b:Int):Prop:=1≤p∧p≤64∧1≤b∧b≤p
instance(p b:Int):Decidable (iV p b):=by unfold iV;infer_instance
def eC(p b n:Int):Int:=if n<p-b then 0 else(n-(p-b))/p*b+max 0 (n-(p-b)-(n-(p-b))/p*p-(p-b))
def xZ(p b n:Int):Int×Int:=if iV p b∧0≤n∧n≤1048576 then(eC p b n,0) else(0,2)
theorem I3(p b:Int)(h:iV p b):PC fs ms 169 [.agg [.int .i64 p,.int .i64 b]] (.int .i64 (p-b)):=by
 refine bq rfl rfl ?_;refine aA (af:=Lm) false rfl (Nat.le_of_ble_eq_true rfl) ?_;generalize hQ:(fun(v:AV) (_:Heap)=>v=.int .i64 (p-b))=Q;unfold iV at h;have e:IntKind.i64.wrap (p-b)=p-b:=IntWalk.i64_in _ (by omega);conv=>whnf
 subst hQ;rw[e]
theorem SO(p b:Int):PC fs ms 160 [.int .i64 p,.int .i64 b] (.cC [.agg [.int .i64 p,.int .i64 b],.bool (decide (iV p b))]):=by
 refine bq rfl rfl ?_;refine aA (af:=Le) false rfl (Nat.le_of_ble_eq_true rfl) ?_;generalize hQ:(fun(v:AV) (_:Heap)=>v=.cC [.agg [.int .i64 p,.int .i64 b],.bool (decide (iV p b))])=Q;conv=>whnf
 by_cases h1:1≤p
 ·refine fP (decide_eq_true h1) (fun hc=>?_)
  (try rw[hc])
  conv=>whnf
  by_cases h2:p≤64
  ·refine fP (decide_eq_true h2) (fun hc=>?_)
   (try rw[hc])
   conv=>whnf
   by_cases h3:1≤b
   ·refine fP (decide_eq_true h3) (fun hc=>?_)
    (try rw[hc])
    conv=>whnf
    subst hQ;have:decide (iV p b)=decide (b≤p):=by
     unfold iV;by_cases h4:b≤p<;>simp[h1,h2,h3,h4]
    rw[this];rfl
   ·refine fO (decide_eq_false h3) (fun hc=>?_)
    (try rw[hc])
    conv=>whnf
    subst hQ;rw[decide_eq_false (show¬iV p b from fun z=>h3 z.2.2.1)];rfl
  ·refine fO (decide_eq_false h2) (fun hc=>?_)
   (try rw[hc])
   conv=>whnf
   subst hQ;rw[decide_eq_false (show¬iV p b from fun z=>h2 z.2.1)];rfl
 ·refine fO (decide_eq_false h1) (fun hc=>?_)
  (try rw[hc])
  conv=>whnf
  subst hQ;rw[decide_eq_false (show¬iV p b from fun z=>h1 z.1)];rfl
theorem PM(a b:Int)(ha:0≤a∧a≤1048576)(hb:1≤b∧b≤4096):PC fs ms 170 [.int .i64 a,.int .i64 b] (.int .i64 (a/b)):=by
 refine bq rfl rfl ?_;refine aA (af:=Ln) false rfl (Nat.le_of_ble_eq_true rfl) ?_;generalize hQ:(fun(v:AV) (_:Heap)=>v=.int .i64 (a/b))=Q;conv=>whnf
 refine ai (N9 a b ha hb) ?_;conv=>whnf
 subst hQ;rfl
theorem Ic(p b n:Int)(h:iV p b)(h0:0≤n)(hn:n≤1048576):0≤eC p b n∧eC p b n≤n:=by
 unfold iV at h;unfold eC;split
 ·omega
 ·have h1:0≤(n-(p-b))/p:=Int.ediv_nonneg (by omega) (by omega);have h2:=Int.ediv_mul_le (n-(p-b)) (show p≠0 by omega);have h3:(n-(p-b))/p*b≤(n-(p-b))/p*p:=Int.mul_le_mul_of_nonneg_left h.2.2.2 h1;have h4:0≤(n-(p-b))/p*b:=Int.mul_nonneg h1 (by omega);omega
theorem LZ(p b n:Int)(h:iV p b)(h0:0≤n)(hn:n≤1048576):PC fs ms 161 [.agg [.int .i64 p,.int .i64 b],.int .i64 n] (.int .i64 (eC p b n)):=by
 refine bq rfl rfl ?_;refine aA (af:=Lf) false rfl (Nat.le_of_ble_eq_true rfl) ?_;generalize hQ:(fun(v:AV) (_:Heap)=>v=.int .i64 (eC p b n))=Q;have h':=h;unfold iV at h';conv=>whnf
 refine ai (I3 p b h) ?_;conv=>whnf
 by_cases hi:n<p-b
 ·refine fP (decide_eq_true hi) (fun hc=>?_)
  (try rw[hc])
  conv=>whnf
  subst hQ;rw[eC,if_pos hi]
 ·refine fO (decide_eq_false hi) (fun hc=>?_)
  (try rw[hc])
  conv=>whnf
  have e1:IntKind.i64.wrap (n-(p-b))=n-(p-b):=IntWalk.i64_in _ (by omega);have hG:eC p b n=(n-(p-b))/p*b+max 0 (n-(p-b)-(n-(p-b))/p*p-(p-b)):=by rw[eC,if_neg hi]
  have h1:0≤(n-(p-b))/p:=Int.ediv_nonneg (by omega) (by omega);have h2:=Int.ediv_mul_le (n-(p-b)) (show p≠0 by omega);have h3:(n-(p-b))/p*b≤(n-(p-b))/p*p:=Int.mul_le_mul_of_nonneg_left h'.2.2.2 h1;have h4:0≤(n-(p-b))/p*b:=Int.mul_nonneg h1 (by omega);rw[e1];conv=>whnf
  refine ai (PM (n-(p-b)) p (by omega) (by omega)) ?_;conv=>whnf
  rw[e1];generalize(n-(p-b))/p=w at*;have e2:IntKind.i64.wrap (w*b)=w*b:=IntWalk.i64_in _ (by omega);have e3:IntKind.i64.wrap (w*p)=w*p:=IntWalk.i64_in _ (by omega);have e4:IntKind.i64.wrap (n-(p-b)-w*p)=n-(p-b)-w*p:=IntWalk.i64_in _ (by omega);have e5:IntKind.i64.wrap (n-(p-b)-w*p-(p-b))=n-(p-b)-w*p-(p-b):=IntWalk.i64_in _ (by omega);rw[e2,e3,e4];conv=>whnf
  refine ai (I3 p b h) ?_;conv=>whnf
  refine⟨dP (by(conv=>whnf);repeat' (first|exact trivial|(exact⟨rfl,rfl,.inr ⟨_,_,rfl⟩⟩)|(refine⟨rfl,rfl,.inl ⟨rfl,fun o ho=>?_⟩⟩;cases ho;first|rfl)|(exact⟨rfl,.inr ⟨_,_,rfl⟩⟩)|(refine⟨rfl,.inl ⟨rfl,fun i o hi ho=>?_⟩⟩;cases hi;cases ho;first|rfl)|(refine And.intro (fun dI=>(Bool.false_ne_true dI).elim) ?_<;>conv=>whnf)|(refine And.intro (fun _=>?_) ?_<;>conv=>whnf)|(refine And.intro ?_ ?_<;>conv=>whnf))),?_⟩;conv=>whnf
  subst hQ;show AV.int .i64 (IntKind.i64.wrap _)=_;rw[hG,e5];by_cases hm:n-(p-b)-w*p-(p-b)>0
  ·rw[decide_eq_true hm,cond_true,IntWalk.i64_in _ (by omega)]
   congr 1
   omega
  ·rw[decide_eq_false hm,cond_false,IntWalk.i64_in _ (by omega)]
   congr 1
   omega
theorem Kc(p b n:Int):PC fs ms 147 [.int .i64 p,.int .i64 b,.int .i64 n] (oh (xZ p b n)):=by
 refine bq rfl rfl ?_;refine aA (af:=K8) false rfl (Nat.le_of_ble_eq_true rfl) ?_;generalize hQ:(fun(v:AV) (_:Heap)=>v=oh (xZ p b n))=Q;conv=>whnf
 refine ai (SO p b) ?_;conv=>whnf
 by_cases h:iV p b
 ·rw[decide_eq_true h];conv=>whnf
  by_cases h0:n<0
  ·refine fP (decide_eq_true h0) (fun hc=>?_)
   (try rw[hc])
   conv=>whnf
   subst hQ;rw[xZ,if_neg (by omega)];rfl
  ·refine fO (decide_eq_false h0) (fun hc=>?_)
   (try rw[hc])
   conv=>whnf
   by_cases h1:n>1048576
   ·refine fP (decide_eq_true h1) (fun hc=>?_)
    (try rw[hc])
    conv=>whnf
    subst hQ;rw[xZ,if_neg (by omega)];rfl
   ·refine fO (decide_eq_false h1) (fun hc=>?_)
    (try rw[hc])
    conv=>whnf
    refine ai (LZ p b n h (by omega) (by omega)) ?_;conv=>whnf
    subst hQ;rw[xZ,if_pos ⟨h,by omega,by omega⟩];rfl
 ·rw[decide_eq_false h];conv=>whnf
  subst hQ;rw[xZ,if_neg (fun z=>h z.1)];rfl
end Ir
end Go.Proofs.Ytecdcefacdodgaa
