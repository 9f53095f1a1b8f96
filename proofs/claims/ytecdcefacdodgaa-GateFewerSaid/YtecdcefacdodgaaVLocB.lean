/-
  Local: the test of a partition.
-/
import Derived.Test.YtecdcefacdodgaaVLocA
set_option maxRecDepth 100000
set_option linter.unusedSimpArgs false
set_option linter.unusedVariables false
namespace Go.Proofs.Ytecdcefacdodgaa
open Go Ads
namespace Ir
def b9(p:Nat→Bool):Nat→Nat→Option Nat
 |_,0=>none
 |t,n+1=>if p t=true then some t else b9 p (t+1) n
theorem ef{p:Nat→Bool}:∀{n t:Nat},b9 p t n=none→∀j,j<n→p (t+j)=false
 |0,_,_,j,hj=>by omega
 |n+1,t,h,j,hj=>by
  rw[b9] at h;split at h
  ·cases h
  ·rename_i hp;cases j with
   |zero=>simpa using hp
   |succ j=>rw[show t+(j+1)=t+1+j by omega];exact ef h j (by omega)
theorem dH{p:Nat→Bool}:∀{n t u:Nat},b9 p t n=some u→t≤u∧u<t+n∧p u=true∧∀v,t≤v→v<u→p v=false
 |0,_,_,h=>by simp[b9] at h
 |n+1,t,u,h=>by
  rw[b9] at h;split at h
  ·rename_i hp;cases h
   exact⟨Nat.le_refl _,by omega,hp,fun v h1 h2=>by omega⟩
  ·rename_i hp;obtain⟨h1,h2,h3,h4⟩:=dH h;refine⟨by omega,by omega,h3,fun v h5 h6=>?_⟩;by_cases hv:v=t
   ·subst hv;simpa using hp
   ·exact h4 v (by omega) h6
def rQ(x:Pt)(l:List Pt)(a:Int)(m:List Int)(t:Nat):Bool:=decide (l9 x m (t:Nat)>0)&&decide (j9 x l a m (t:Nat)<0)
def lA:AC:=oa
def lB:AC:=ob
def lE(F:AV):Env:=ek 7 [(4,.ptr 0 0),(5,.ptr 1 0),(89,F)]
def lH(F:AV)(a e:Int)(st:Nat)(bD:Option AX):Heap:=⟨3,.node (.node .nil (some (.cells [.int .i64 e] true 0)) .nil) (some (.cells [.int .i64 a] true 0)) (.node .nil (some (.loop st bD (lE F) [90,91] lA lB)) .nil)⟩
theorem Ja(F:AV)(a e:Int)(st:Nat)(bD:Option AX):lH F a e st bD=hk 3 [(0,.cells [.int .i64 a] true 0),(1,.cells [.int .i64 e] true 0),(2,.loop st bD (lE F) [90,91] lA lB)]:=Iz _ _ _
theorem J1(x:Pt)(k:Nat)(l:List Pt)(a:Int)(m:List Int)(n:Int):PC fs ms 86 [lk x k l a m,.int .i64 n] (.func (.func 116) [] [.fp [.int .i64 n] 0,.fp (lk x k l a m).cells 0]):=by
 refine⟨by simp[bn,tZ];rfl,by simp[AV.cl,bn,bN (tZ x k l a m)],?_⟩;refine aA (af:=Te) false rfl (Nat.le_of_ble_eq_true rfl) ?_;generalize hQ:(fun(u:AV) (h:Heap)=>kz (fun _=>True) h u (.func (.func 116) [] [.fp [.int .i64 n] 0,.fp (lk x k l a m).cells 0]))=Q;conv=>whnf
 subst hQ;exact .func' .nil (.cons (.ptr' trivial rfl (.clean (l:=[.int .i64 n]) rfl)) (.cons (.ptr' trivial rfl (.clean (l:=(lk x k l a m).cells) (bN (tZ x k l a m)))) .nil))
set_option maxHeartbeats 4000000 in
theorem Sx(x:Pt)(k:Nat)(l:List Pt)(a:Int)(m:List Int)(fin:Nat)(kH:fin<1048576){F:AV}(hF:F.cl=true)(hs:Small l)(hx:x.ts.length≤17592186044416)(hm:m.length<2^62):
  VD fs ms 116 [.yield 2,.fp [.int .i64 (fin:Nat)] 0,.fp (lk x k l a m).cells 0] (lH F 0 0 0 none) (fun _ h2=>h2=match b9 (rQ x l a m) 1 fin with|none=>lH F 0 0 0 none|some t=>lH F (t:Nat) 120 2 (some .ret)):=by
 refine aA (af:=KR) false rfl (Nat.le_of_ble_eq_true rfl) ?_;generalize hQ:(fun(v:AV) (h2:Heap)=>h2=match b9 (rQ x l a m) 1 fin with|none=>lH F 0 0 0 none|some t=>lH F (t:Nat) 120 2 (some .ret))=Q;show lT _ _ fun e=>kX fs ms 3 false false _ e ⟨3,.node (.node .nil (some (.cells [.int .i64 0] true 0)) .nil) (some (.cells [.int .i64 0] true 0)) (.node .nil (some (.loop 0 none (lE F) [90,91] lA lB)) .nil)⟩ _;have iL:bn (lk x k l a m).cells=true:=bN (tZ x k l a m);have Dr:(lk x k l a m)=.agg (lk x k l a m).cells:=rfl;have hl6:(lk x k l a m).cells.length=6:=rfl;have xJ:=fun n=>Hv x k l a m n hx hm;have Sc:=fun n=>MU x k l a m n hs hx hm;have hpf:∀(t:Nat),rQ x l a m t=(decide (l9 x m (t:Nat)>0)&&decide (j9 x l a m (t:Nat)<0)):=fun t=>rfl;conv=>whnf
 have BL:∀{e1:Env} {E:List (Nat×AV)},fW id 3 e1 E→GC 3 id e1 (lH F 0 0 0 none) (ek 5 E) (lH F 0 0 0 none):=fun hr=>tA (Ja _ _ _ _ _) id hr ⟨by omega,⟨_,rfl,aX rfl rfl⟩,by omega,⟨_,rfl,aX rfl rfl⟩,by omega,⟨_,rfl,nh (by simp;exact⟨.ptr (by omega),.ptr (by omega),.cl hF⟩)⟩,trivial⟩ (by intro b c hb hc h;exact h) (fun b hb=>rfl) (Nat.le_refl _);refine iX (p:=id) (BL (E:=[(0,.yield 2),(1,.fp [.int .i64 (fin:Nat)] 0),(2,.fp (lk x k l a m).cells 0),(4,.int .i64 ((0+1:Nat):Int))]) (by repeat' (first|exact trivial|refine bt rfl (by omega) ?_|refine aV rfl (by omega) ?_|refine aJ rfl (by omega) ?_|refine aC rfl (by first|rfl|simp[bn,AV.cl,aE,iL]) ?_|refine aC (au (by omega)) rfl ?_))) ?_;have round:∀(K:AX→Env→Heap→Prop) j,j<fin→rQ x l a m (j+1)=false→kX fs ms 3 false false iu (ek 5 [(0,.yield 2),(1,.fp [.int .i64 (fin:Nat)] 0),(2,.fp (lk x k l a m).cells 0),(4,.int .i64 ((j+1:Nat):Int))]) (lH F 0 0 0 none) (fun x1 e1 h1=>match x1 with|.normal=>True∧∃p,GC 3 p e1 h1 (ek 5 [(0,.yield 2),(1,.fp [.int .i64 (fin:Nat)] 0),(2,.fp (lk x k l a m).cells 0),(4,.int .i64 ((j+1+1:Nat):Int))]) (lH F 0 0 0 none)|x1=>K x1 e1 h1):=by
  intro K j hj hb;rw[hpf] at hb;have h1:=xJ ((j+1:Nat):Int);have h2:=Sc ((j+1:Nat):Int);generalize l9 x m ((j+1:Nat):Int)=A at*;generalize j9 x l a m ((j+1:Nat):Int)=S at*;show kX fs ms 3 false false _ _ ⟨3,.node (.node .nil (some (.cells [.int .i64 0] true 0)) .nil) (some (.cells [.int .i64 0] true 0)) (.node .nil (some (.loop 0 none (lE F) [90,91] lA lB)) .nil)⟩ _;conv=>whnf
  refine fP (by simp;omega) (fun hc=>?_)
  (try rw[hc])
  conv=>whnf
  refine ai h1 ?_;conv=>whnf
  by_cases ha:A>0
  ·have hn:¬S<0:=by
    rw[decide_eq_true ha,Bool.true_and] at hb;exact of_decide_eq_false hb
   refine fP (decide_eq_true ha) (fun hc=>?_)
   (try rw[hc])
   conv=>whnf
   refine ai h2 ?_;conv=>whnf
   refine xg rfl rfl ?_;refine bg (z:=false) ?_;conv=>whnf
   refine⟨rfl,none,rfl,?_⟩;refine bg (z:=false) ?_;conv=>whnf
   refine fO (decide_eq_false hn) (fun hc=>?_)
   (try rw[hc])
   conv=>whnf
   refine⟨by simp,⟨1,none,rfl⟩,?_⟩;conv=>whnf
   exact⟨trivial,id,BL (by repeat' (first|exact trivial|refine bt rfl (by omega) ?_|refine aV rfl (by omega) ?_|refine aJ rfl (by omega) ?_|refine aC rfl (by first|rfl|simp[bn,AV.cl,aE,iL]) ?_|refine aC (au (by omega)) rfl ?_))⟩
  ·refine fO (decide_eq_false ha) (fun hc=>?_)
   (try rw[hc])
   conv=>whnf
   exact⟨trivial,id,BL (by repeat' (first|exact trivial|refine bt rfl (by omega) ?_|refine aV rfl (by omega) ?_|refine aJ rfl (by omega) ?_|refine aC rfl (by first|rfl|simp[bn,AV.cl,aE,iL]) ?_|refine aC (au (by omega)) rfl ?_))⟩
 cases mh:b9 (rQ x l a m) 1 fin with
 |none=>
  rw[mh] at hQ;have hno:=ef mh;refine jR 3 5 fin (fun _=>True) (fun j=>[(0,.yield 2),(1,.fp [.int .i64 (fin:Nat)] 0),(2,.fp (lk x k l a m).cells 0),(4,.int .i64 ((j+1:Nat):Int))]) (fun _=>lH F 0 0 0 none) (fun j hj _=>round _ j hj (by have:=hno j hj;rwa [Nat.add_comm] at this)) ?_ trivial;intro _;conv=>whnf
  refine fO (by simp;omega) (fun hc=>?_)
  (try rw[hc])
  conv=>whnf
  subst hQ;rfl
 |some u=>
  rw[mh] at hQ;obtain⟨u1,u2,u3,u4⟩:=dH mh;refine jR 3 5 (u-1) (fun _=>True) (fun j=>[(0,.yield 2),(1,.fp [.int .i64 (fin:Nat)] 0),(2,.fp (lk x k l a m).cells 0),(4,.int .i64 ((j+1:Nat):Int))]) (fun _=>lH F 0 0 0 none) (fun j hj _=>round _ j (by omega) (u4 (j+1) (by omega) (by omega))) ?_ trivial;intro _;rw[show u-1+1=u by omega];rw[hpf,Bool.and_eq_true] at u3;have h1:=xJ (u:Nat);have h2:=Sc (u:Nat);generalize l9 x m (u:Nat)=A at*;generalize j9 x l a m (u:Nat)=S at*;show kX fs ms 3 false false _ _ ⟨3,.node (.node .nil (some (.cells [.int .i64 0] true 0)) .nil) (some (.cells [.int .i64 0] true 0)) (.node .nil (some (.loop 0 none (lE F) [90,91] lA lB)) .nil)⟩ _;conv=>whnf
  refine fP (by simp;omega) (fun hc=>?_)
  (try rw[hc])
  conv=>whnf
  refine ai h1 ?_;conv=>whnf
  refine fP (u3.1) (fun hc=>?_)
  (try rw[hc])
  conv=>whnf
  refine ai h2 ?_;conv=>whnf
  refine xg rfl rfl ?_;refine bg (z:=false) ?_;conv=>whnf
  refine⟨rfl,none,rfl,?_⟩;refine bg (z:=false) ?_;conv=>whnf
  refine fP (u3.2) (fun hc=>?_)
  (try rw[hc])
  conv=>whnf
  refine⟨by simp,⟨1,none,rfl⟩,?_⟩;conv=>whnf
  subst hQ;rfl
end Ir
end Go.Proofs.Ytecdcefacdodgaa
