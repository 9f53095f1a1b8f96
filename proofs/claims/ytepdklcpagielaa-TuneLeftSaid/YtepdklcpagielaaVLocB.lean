/-
  Local: the test of a partition.
-/
import Derived.Test.YtepdklcpagielaaVLocA
set_option maxRecDepth 100000
set_option linter.unusedSimpArgs false
set_option linter.unusedVariables false
namespace Go.Proofs.Ytepdklcpagielaa
open Go Ads
namespace Ir
def eA(p:Nat→Bool):Nat→Nat→Option Nat
 |_,0=>none
 |t,n+1=>if p t=true then some t else eA p (t+1) n
theorem jK{p:Nat→Bool}:∀{n t:Nat},eA p t n=none→∀j,j<n→p (t+j)=false
 |0,_,_,j,hj=>by omega
 |n+1,t,h,j,hj=>by
  rw[eA] at h;split at h
  ·cases h
  ·rename_i hp;cases j with
   |zero=>simpa using hp
   |succ j=>rw[show t+(j+1)=t+1+j by omega];exact jK h j (by omega)
theorem lP{p:Nat→Bool}:∀{n t u:Nat},eA p t n=some u→t≤u∧u<t+n∧p u=true∧∀v,t≤v→v<u→p v=false
 |0,_,_,h=>by simp[eA] at h
 |n+1,t,u,h=>by
  rw[eA] at h;split at h
  ·rename_i hp;cases h
   exact⟨Nat.le_refl _,by omega,hp,fun v h1 h2=>by omega⟩
  ·rename_i hp;obtain⟨h1,h2,h3,h4⟩:=lP h;refine⟨by omega,by omega,h3,fun v h5 h6=>?_⟩;by_cases hv:v=t
   ·subst hv;simpa using hp
   ·exact h4 v (by omega) h6
def Fo(x:Pt)(l:List Pt)(a:Int)(m:List Int)(t:Nat):Bool:=decide (wZ x m (t:Nat)>0)&&decide (uF x l a m (t:Nat)<0)
def lA:AC:=qF
def lB:AC:=qG
def lE(F:AV):Env:=ek 7 [(4,.ptr 0 0),(5,.ptr 1 0),(89,F)]
def lH(F:AV)(a e:Int)(st:Nat)(cF:Option AX):Heap:=⟨3,.node (.node .nil (some (.cells [.int .i64 e] true 0)) .nil) (some (.cells [.int .i64 a] true 0)) (.node .nil (some (.loop st cF (lE F) [90,91] lA lB)) .nil)⟩
theorem L3(F:AV)(a e:Int)(st:Nat)(cF:Option AX):lH F a e st cF=hk 3 [(0,.cells [.int .i64 a] true 0),(1,.cells [.int .i64 e] true 0),(2,.loop st cF (lE F) [90,91] lA lB)]:=Lo _ _ _
theorem MU(x:Pt)(k:Nat)(l:List Pt)(a:Int)(m:List Int)(n:Int):PC fs ms 109 [lk x k l a m,.int .i64 n] (.func (.func 121) [] [.fp [.int .i64 n] 0,.fp (lk x k l a m).cells 0]):=by
 refine⟨by simp[bL,w7];rfl,by simp[AV.cl,bL,cI (w7 x k l a m)],?_⟩;refine aC (af:=NN) false rfl (Nat.le_of_ble_eq_true rfl) ?_;generalize hQ:(fun(u:AV) (h:Heap)=>jo (fun _=>True) h u (.func (.func 121) [] [.fp [.int .i64 n] 0,.fp (lk x k l a m).cells 0]))=Q;conv=>whnf
 subst hQ;exact .func' .nil (.cons (.ptr' trivial rfl (.clean (l:=[.int .i64 n]) rfl)) (.cons (.ptr' trivial rfl (.clean (l:=(lk x k l a m).cells) (cI (w7 x k l a m)))) .nil))
set_option maxHeartbeats 4000000 in
theorem WK(x:Pt)(k:Nat)(l:List Pt)(a:Int)(m:List Int)(fin:Nat)(jM:fin<1048576){F:AV}(hF:F.cl=true)(hs:Small l)(hx:x.ts.length≤17592186044416)(hm:m.length<2^62):
  VD fs ms 121 [.yield 2,.fp [.int .i64 (fin:Nat)] 0,.fp (lk x k l a m).cells 0] (lH F 0 0 0 none) (fun _ h2=>h2=match eA (Fo x l a m) 1 fin with|none=>lH F 0 0 0 none|some t=>lH F (t:Nat) 120 2 (some .ret)):=by
 refine aC (af:=NY) false rfl (Nat.le_of_ble_eq_true rfl) ?_;generalize hQ:(fun(v:AV) (h2:Heap)=>h2=match eA (Fo x l a m) 1 fin with|none=>lH F 0 0 0 none|some t=>lH F (t:Nat) 120 2 (some .ret))=Q;show mJ _ _ fun e=>tJ fs ms 3 false false _ e ⟨3,.node (.node .nil (some (.cells [.int .i64 0] true 0)) .nil) (some (.cells [.int .i64 0] true 0)) (.node .nil (some (.loop 0 none (lE F) [90,91] lA lB)) .nil)⟩ _;have jQ:bL (lk x k l a m).cells=true:=cI (w7 x k l a m);have FR:(lk x k l a m)=.agg (lk x k l a m).cells:=rfl;have hl6:(lk x k l a m).cells.length=6:=rfl;have Vt:=fun n=>Kq x k l a m n hx hm;have Wj:=fun n=>Qn x k l a m n hs hx hm;have hpf:∀(t:Nat),Fo x l a m t=(decide (wZ x m (t:Nat)>0)&&decide (uF x l a m (t:Nat)<0)):=fun t=>rfl;conv=>whnf
 have Ec:∀{e1:Env} {E:List (Nat×AV)},jH id 3 e1 E→GC 3 id e1 (lH F 0 0 0 none) (ek 5 E) (lH F 0 0 0 none):=fun hr=>wh (L3 _ _ _ _ _) id hr ⟨by omega,⟨_,rfl,ep rfl rfl⟩,by omega,⟨_,rfl,ep rfl rfl⟩,by omega,⟨_,rfl,pN (by simp;exact⟨.ptr (by omega),.ptr (by omega),.cl hF⟩)⟩,trivial⟩ (by intro b c hb hc h;exact h) (fun b hb=>rfl) (Nat.le_refl _);refine z7 (p:=id) (Ec (E:=[(0,.yield 2),(1,.fp [.int .i64 (fin:Nat)] 0),(2,.fp (lk x k l a m).cells 0),(4,.int .i64 ((0+1:Nat):Int))]) (by repeat' (first|exact trivial|refine bI rfl (by omega) ?_|refine bg rfl (by omega) ?_|refine aR rfl (by omega) ?_|refine aJ rfl (by first|rfl|simp[bL,AV.cl,aS,jQ]) ?_|refine aJ (ay (by omega)) rfl ?_))) ?_;have round:∀(K:AX→Env→Heap→Prop) j,j<fin→Fo x l a m (j+1)=false→tJ fs ms 3 false false j7 (ek 5 [(0,.yield 2),(1,.fp [.int .i64 (fin:Nat)] 0),(2,.fp (lk x k l a m).cells 0),(4,.int .i64 ((j+1:Nat):Int))]) (lH F 0 0 0 none) (fun x1 e1 h1=>match x1 with|.normal=>True∧∃p,GC 3 p e1 h1 (ek 5 [(0,.yield 2),(1,.fp [.int .i64 (fin:Nat)] 0),(2,.fp (lk x k l a m).cells 0),(4,.int .i64 ((j+1+1:Nat):Int))]) (lH F 0 0 0 none)|x1=>K x1 e1 h1):=by
  intro K j hj hb;rw[hpf] at hb;have h1:=Vt ((j+1:Nat):Int);have h2:=Wj ((j+1:Nat):Int);generalize wZ x m ((j+1:Nat):Int)=A at*;generalize uF x l a m ((j+1:Nat):Int)=S at*;show tJ fs ms 3 false false _ _ ⟨3,.node (.node .nil (some (.cells [.int .i64 0] true 0)) .nil) (some (.cells [.int .i64 0] true 0)) (.node .nil (some (.loop 0 none (lE F) [90,91] lA lB)) .nil)⟩ _;conv=>whnf
  refine kO (by simp;omega) (fun hc=>?_)
  (try rw[hc])
  conv=>whnf
  refine au h1 ?_;conv=>whnf
  by_cases ha:A>0
  ·have hn:¬S<0:=by
    rw[decide_eq_true ha,Bool.true_and] at hb;exact of_decide_eq_false hb
   refine kO (decide_eq_true ha) (fun hc=>?_)
   (try rw[hc])
   conv=>whnf
   refine au h2 ?_;conv=>whnf
   refine z9 rfl rfl ?_;refine aa (z:=false) ?_;conv=>whnf
   refine⟨rfl,none,rfl,?_⟩;refine aa (z:=false) ?_;conv=>whnf
   refine lY (decide_eq_false hn) (fun hc=>?_)
   (try rw[hc])
   conv=>whnf
   refine⟨by simp,⟨1,none,rfl⟩,?_⟩;conv=>whnf
   exact⟨trivial,id,Ec (by repeat' (first|exact trivial|refine bI rfl (by omega) ?_|refine bg rfl (by omega) ?_|refine aR rfl (by omega) ?_|refine aJ rfl (by first|rfl|simp[bL,AV.cl,aS,jQ]) ?_|refine aJ (ay (by omega)) rfl ?_))⟩
  ·refine lY (decide_eq_false ha) (fun hc=>?_)
   (try rw[hc])
   conv=>whnf
   exact⟨trivial,id,Ec (by repeat' (first|exact trivial|refine bI rfl (by omega) ?_|refine bg rfl (by omega) ?_|refine aR rfl (by omega) ?_|refine aJ rfl (by first|rfl|simp[bL,AV.cl,aS,jQ]) ?_|refine aJ (ay (by omega)) rfl ?_))⟩
 cases wz:eA (Fo x l a m) 1 fin with
 |none=>
  rw[wz] at hQ;have hno:=jK wz;refine o9 3 5 fin (fun _=>True) (fun j=>[(0,.yield 2),(1,.fp [.int .i64 (fin:Nat)] 0),(2,.fp (lk x k l a m).cells 0),(4,.int .i64 ((j+1:Nat):Int))]) (fun _=>lH F 0 0 0 none) (fun j hj _=>round _ j hj (by have:=hno j hj;rwa [Nat.add_comm] at this)) ?_ trivial;intro _;conv=>whnf
  refine lY (by simp;omega) (fun hc=>?_)
  (try rw[hc])
  conv=>whnf
  subst hQ;rfl
 |some u=>
  rw[wz] at hQ;obtain⟨u1,u2,u3,u4⟩:=lP wz;refine o9 3 5 (u-1) (fun _=>True) (fun j=>[(0,.yield 2),(1,.fp [.int .i64 (fin:Nat)] 0),(2,.fp (lk x k l a m).cells 0),(4,.int .i64 ((j+1:Nat):Int))]) (fun _=>lH F 0 0 0 none) (fun j hj _=>round _ j (by omega) (u4 (j+1) (by omega) (by omega))) ?_ trivial;intro _;rw[show u-1+1=u by omega];rw[hpf,Bool.and_eq_true] at u3;have h1:=Vt (u:Nat);have h2:=Wj (u:Nat);generalize wZ x m (u:Nat)=A at*;generalize uF x l a m (u:Nat)=S at*;show tJ fs ms 3 false false _ _ ⟨3,.node (.node .nil (some (.cells [.int .i64 0] true 0)) .nil) (some (.cells [.int .i64 0] true 0)) (.node .nil (some (.loop 0 none (lE F) [90,91] lA lB)) .nil)⟩ _;conv=>whnf
  refine kO (by simp;omega) (fun hc=>?_)
  (try rw[hc])
  conv=>whnf
  refine au h1 ?_;conv=>whnf
  refine kO (u3.1) (fun hc=>?_)
  (try rw[hc])
  conv=>whnf
  refine au h2 ?_;conv=>whnf
  refine z9 rfl rfl ?_;refine aa (z:=false) ?_;conv=>whnf
  refine⟨rfl,none,rfl,?_⟩;refine aa (z:=false) ?_;conv=>whnf
  refine kO (u3.2) (fun hc=>?_)
  (try rw[hc])
  conv=>whnf
  refine⟨by simp,⟨1,none,rfl⟩,?_⟩;conv=>whnf
  subst hQ;rfl
end Ir
end Go.Proofs.Ytepdklcpagielaa
