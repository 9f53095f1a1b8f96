/-
  GateFewer.
-/
import Derived.Test.YtecdcefacdodgaaVGatR
import Derived.Test.YtecdcefacdodgaaVGatW
import Derived.Test.YtecdcefacdodgaaVDelT
set_option maxRecDepth 100000
set_option linter.unusedSimpArgs false
set_option linter.unusedVariables false
namespace Go.Proofs.Ytecdcefacdodgaa
open Go Ads
namespace Ir
theorem GQ{x:Pt}(h:ki x):0≤wt x:=by
 have h1:=h.1;have h3:=h.2.2.1;exact Int.mul_nonneg (by omega) (Int.ediv_nonneg (by omega) (by omega))
theorem Cf{M:List Pt}{w w':List Bool}(hM:∀x,x∈M→ki x)(hw:w.length=M.length)(Si:w'.length=M.length)(hle:∀(i:Nat) (h:i<w.length) (h':i<w'.length),w'[i]=true→w[i]=true):
  ∀j,j≤M.length→fq (cR M w' j)≤fq (cR M w j)∧∀x,x∈cR M w' j→x∈cR M w j
 |0,_=>⟨Int.le_refl _,fun x hx=>hx⟩
 |j+1,hj=>by
  obtain⟨i1,i2⟩:=Cf hM hw Si hle j (by omega);have hx:=GQ (hM _ (List.getElem_mem (show j<M.length by omega)));have Iy:j<w.length:=by omega
  have hj2:j<w'.length:=by omega
  have hle:=hle j Iy hj2;have he:fq [M[j]]=wt M[j]:=by simp[fq]
  cases h1:w'[j] with
  |true=>
   rw[lP (by omega) hj2 h1,lP (by omega) Iy (hle h1),kV,kV];refine⟨by omega,fun x hx=>?_⟩;rcases List.mem_append.1 hx with hx|hx
   ·exact List.mem_append_left _ (i2 x hx)
   ·exact List.mem_append_right _ hx
  |false=>
   rw[qm (by omega) hj2 h1];cases h2:w[j] with
   |true=>
    rw[lP (by omega) Iy h2,kV];exact⟨by omega,fun x hx=>List.mem_append_left _ (i2 x hx)⟩
   |false=>
    rw[qm (by omega) Iy h2];exact⟨i1,i2⟩
theorem Cg{M:List Pt}{w:List Bool}(hw:w.length=M.length)(h:∀(i:Nat) (h:i<w.length),w[i]=false):∀j,j≤M.length→cR M w j=[]
 |0,_=>rfl
 |j+1,hj=>by rw[qm (by omega) (by omega) (h j (by omega)),Cg hw h j (by omega)]
def Ah(n m:Int):Int:=IntKind.i64.wrap ((BitVec.ofInt 64 n&&&~~~BitVec.ofInt 64 m).toNat:Int)
theorem MZ:∀a:Fin 16,∀b:Fin 16,∀i:Fin 4,uR (Ah ((a.val:Nat):Int) ((b.val:Nat):Int)) i.val=true→uR ((a.val:Nat):Int) i.val=true:=by decide+kernel
theorem Kn:∀i:Fin 4,uR 0 i.val=false:=by decide+kernel
theorem Km{n m:Int}(h1:0≤n∧n<16)(h2:0≤m∧m<16){i:Nat}(hi:i<4)(h:uR (Ah n m) i=true):uR n i=true:=by
 have:=MZ ⟨n.toNat,by omega⟩ ⟨m.toNat,by omega⟩ ⟨i,hi⟩;simp only[show((n.toNat:Nat):Int)=n by omega,show((m.toNat:Nat):Int)=m by omega] at this;exact this h
theorem xm{n:Int}{m i:Nat}(h:i<(lX n m).length):(lX n m)[i]=uR n i:=by simp[lX]
theorem Ra{M:List Pt}(hM:∀x,x∈M→Plain x)(h4:M.length≤4){n m:Int}(h1:0≤n∧n<16)(h2:0≤m∧m<16)(hne:1≤M.length):
  (gn M (lX 0 M.length)).2.2=0∧((gn M (lX n M.length)).2.2=0→(gn M (lX (Ah n m) M.length)).2.2=0):=by
 have hl:=fun n=>xo n M.length;constructor
 ·rw[nH hM hne h4 (hl 0),Cg (hl 0) (fun i hi=>by rw[xm hi];rw[hl] at hi;exact Kn ⟨i,by omega⟩) _ (Nat.le_refl _)];exact⟨by decide,fun x hx=>by simp at hx⟩
 ·rw[nH hM hne h4 (hl n),nH hM hne h4 (hl (Ah n m))];obtain⟨i1,i2⟩:=Cf (fun x hx=>(hM x hx).2.2.1) (hl n) (hl (Ah n m)) (fun i hi hi' h=>by
   rw[xm hi'] at h;rw[xm hi];rw[hl] at hi;exact Km h1 h2 (by omega) h) M.length (Nat.le_refl _)
  exact fun⟨a1,a2⟩=>⟨by omega,fun x hx=>a2 x (i2 x hx)⟩
theorem vJ(w:List Bool):gn [] w=(0,0,50):=by
 have:dO [] w=50:=by rw[dO,if_neg (by simp[mc])]
 rw[gn,this,if_pos (by omega)]
theorem Bp(k:Nat)(l:List Pt)(n m:Int)(hs:Small l):PC fs ms 3 [.fz k (pts l),.int .i64 n,.int .i64 m] (.bool true):=by
 refine bq (by simp[bn,AV.cl,aS]) rfl ?_;refine iZ (af:=C3) rfl (Nat.le_of_ble_eq_true rfl) ?_;generalize hQ:(fun(v:AV) (_:Heap)=>v=.bool true)=Q;have hM:=uw (l:=l);have ES:(cT l).length≤4:=by simp[cT];omega
 have Oy:Small (cT l):=by
  refine⟨by omega,fun x hx=>?_⟩;obtain⟨y,rfl⟩:=tM hx;have:=(Ab y).2.2.2.2;omega
 have IB:=BY k l hs;generalize cT l=M at*;generalize eM M.length=K at*;have GX:=Int.emod_nonneg n (show(16:Int)≠0 by omega);have hn2:=Int.emod_lt_of_pos n (show(0:Int)<16 by omega);have RV:=Int.emod_nonneg m (show(16:Int)≠0 by omega);have hm2:=Int.emod_lt_of_pos m (show(0:Int)<16 by omega);have rL:=jG n 16 (by omega) (by omega);have Xb:=jG m 16 (by omega) (by omega);rw[show mT n 16=n%16 from rfl] at rL;rw[show mT m 16=m%16 from rfl] at Xb;have VL:=Ra hM ES ⟨GX,hn2⟩ ⟨RV,hm2⟩;generalize n%16=a at*;generalize m%16=b at*;have BN:=fun n=>NT K M n Oy (by omega);have t1:=lu K (eM M.length) M (lX a M.length) Oy;have t2:=lu K (eM M.length) M (lX (Ah a b) M.length) Oy;have t3:=lu K (eM M.length) M (lX 0 M.length) Oy;have VK:M.length=0→gn M (lX a M.length)=(0,0,50)∧gn M (lX (Ah a b) M.length)=(0,0,50):=by
  intro h;have:M=[]:=List.length_eq_zero_iff.1 h;subst this;exact⟨vJ _,vJ _⟩
 have w1:=BN a;have w2:=BN (Ah a b);have w3:=BN 0;clear BN;generalize gn M (lX a M.length)=q1 at*;generalize gn M (lX (Ah a b) M.length)=q2 at*;generalize gn M (lX 0 M.length)=q3 at*;obtain⟨a1,a2,a3⟩:=q1;obtain⟨b1,b2,b3⟩:=q2;obtain⟨c1,c2,c3⟩:=q3;conv=>whnf
 refine iY false ?_;conv=>whnf
 refine iY false ?_;conv=>whnf
 refine ai (v:=.agg [.fz K (pts M),.aq]) IB ?_;conv=>whnf
 refine iq [0] (i:=7) (v':=.fp [.fz K (pts M),.aq] 0) rfl (.ptr' (by simp) rfl (.clean (show bn [.fz K (pts M),.aq]=true by simp[bn,AV.cl,aS]))) ?_;refine dy 5 [(1,.int .i64 n),(2,.int .i64 m),(7,.fp [.fz K (pts M),.aq] 0)] ?_ ?_
 ·exact⟨⟨_,rfl,.cl rfl⟩,⟨_,rfl,.cl rfl⟩,⟨_,rfl,.cl (by simp[AV.cl,bn,aS])⟩,trivial⟩
 refine bg (z:=false) ?_;conv=>whnf
 refine ai (rL) ?_;conv=>whnf
 refine ai (Xb) ?_;conv=>whnf
 refine ai w1 ?_;conv=>whnf
 refine ai (v:=.cC [.int .i64 a1,.int .i64 a2,.int .i64 a3]) t1 ?_;conv=>whnf
 refine⟨dP (by(conv=>whnf);repeat' (first|exact trivial|(exact⟨rfl,rfl,.inr ⟨_,_,rfl⟩⟩)|(refine⟨rfl,rfl,.inl ⟨rfl,fun o ho=>?_⟩⟩;cases ho;first|rfl)|(exact⟨rfl,.inr ⟨_,_,rfl⟩⟩)|(refine⟨rfl,.inl ⟨rfl,fun i o hi ho=>?_⟩⟩;cases hi;cases ho;first|rfl)|(refine And.intro (fun dI=>(Bool.false_ne_true dI).elim) ?_<;>conv=>whnf)|(refine And.intro (fun _=>?_) ?_<;>conv=>whnf)|(refine And.intro ?_ ?_<;>conv=>whnf))),?_⟩;conv=>whnf
 refine ai w2 ?_;conv=>whnf
 refine ai (v:=.cC [.int .i64 b1,.int .i64 b2,.int .i64 b3]) t2 ?_;conv=>whnf
 refine⟨dP (by(conv=>whnf);repeat' (first|exact trivial|(exact⟨rfl,rfl,.inr ⟨_,_,rfl⟩⟩)|(refine⟨rfl,rfl,.inl ⟨rfl,fun o ho=>?_⟩⟩;cases ho;first|rfl)|(exact⟨rfl,.inr ⟨_,_,rfl⟩⟩)|(refine⟨rfl,.inl ⟨rfl,fun i o hi ho=>?_⟩⟩;cases hi;cases ho;first|rfl)|(refine And.intro (fun dI=>(Bool.false_ne_true dI).elim) ?_<;>conv=>whnf)|(refine And.intro (fun _=>?_) ?_<;>conv=>whnf)|(refine And.intro ?_ ?_<;>conv=>whnf))),?_⟩;conv=>whnf
 rw[bL];by_cases h0:M.length=0
 ·obtain⟨e1,e2⟩:=VK h0;simp only[Prod.mk.injEq] at e1 e2;obtain⟨rfl,rfl,rfl⟩:=e1;obtain⟨rfl,rfl,rfl⟩:=e2;refine fP (by rw[h0];rfl) (fun hc=>?_)
  (try rw[hc])
  conv=>whnf
  refine ai (qw) ?_;conv=>whnf
  subst hQ;rfl
 ·refine fO (by exact beq_eq_false_iff_ne.2 (by omega)) (fun hc=>?_)
  (try rw[hc])
  conv=>whnf
  refine ai w3 ?_;conv=>whnf
  refine ai (v:=.cC [.int .i64 c1,.int .i64 c2,.int .i64 c3]) t3 ?_;conv=>whnf
  refine⟨dP (by(conv=>whnf);repeat' (first|exact trivial|(exact⟨rfl,rfl,.inr ⟨_,_,rfl⟩⟩)|(refine⟨rfl,rfl,.inl ⟨rfl,fun o ho=>?_⟩⟩;cases ho;first|rfl)|(exact⟨rfl,.inr ⟨_,_,rfl⟩⟩)|(refine⟨rfl,.inl ⟨rfl,fun i o hi ho=>?_⟩⟩;cases hi;cases ho;first|rfl)|(refine And.intro (fun dI=>(Bool.false_ne_true dI).elim) ?_<;>conv=>whnf)|(refine And.intro (fun _=>?_) ?_<;>conv=>whnf)|(refine And.intro ?_ ?_<;>conv=>whnf))),?_⟩;conv=>whnf
  obtain⟨f1,f2⟩:=VL (by omega);simp only at f1 f2;subst f1;conv=>whnf
  by_cases g0:a3=0
  ·have g1:=f2 g0;subst g0 g1;conv=>whnf
   refine ai (qw) ?_;conv=>whnf
   subst hQ;rfl
  ·refine fP (by simpa using g0) (fun hc=>?_)
   (try rw[hc])
   conv=>whnf
   refine ai (qw) ?_;conv=>whnf
   subst hQ;rfl
end Ir
end Go.Proofs.Ytecdcefacdodgaa
