/-
  Tape: commands that are the same; what is brought.
-/
import Derived.Test.YtmnolnoeibhjgaaGreatVTpO
set_option maxRecDepth 100000
set_option linter.unusedSimpArgs false
set_option linter.unusedVariables false
namespace Go.Proofs.YtmnolnoeibhjgaaGreat
open Go Ads
namespace Ir
theorem BJ(o:nq):pV (.neq (.cells [0,0,2])) [top o,top o]=some (.bool false):=by
 simp[pV,top,BW,fZ,tW]
theorem de(a:Int):(a !=a)=false:=by simp
theorem Pv{x:bu}{h:Heap}{a b:Nat}(hA:h.get a=some (.cells (dG x).cells true 0))(hB:h.get b=some (.cells (dG x).cells true 0))(hx:x.ops.length<2^62){B:Nat}{Q:AX→Env→Heap→Prop}(hQ:∀e',Q (.exit 0) e' h):
  ∀(m j:Nat) (env:Env),x.ops.length-j=m→j≤x.ops.length→bQ env [(2,.ptr a 0),(3,.ptr b 0),(5,.int .i64 ((j:Nat):Int))]→VC fs ms B false (.loop fU) env h Q:=by
 intro m;induction m with
 |zero=>
  intro j env hm hj bg;have hjl:j=x.ops.length:=by omega
  subst hjl;refine ay 5 _ bg ?_;refine aH (aa (z:=true) ?_);conv=>whnf
  refine⟨.fz x.kk (b9 x.ops),cM hA rfl,?_⟩;conv=>whnf
  refine k7 (by simp[bq]) (fun hc=>?_)
  (try rw[hc])
  conv=>whnf
  exact hQ _
 |succ m ih=>
  intro j env hm hj bg;have hlt:j<x.ops.length:=by omega
  have lV:=nJ (k:=x.kk) hlt;generalize hX:x.ops[j]=o at*;refine ay 5 _ bg ?_;refine aH (an true ?_);conv=>whnf
  refine⟨.fz x.kk (b9 x.ops),cM hA rfl,?_⟩;conv=>whnf
  refine ny (by simp[bq];omega) (fun hc=>?_)
  (try rw[hc])
  conv=>whnf
  refine aJ (aR (an true ?_));conv=>whnf
  refine⟨.fz x.kk (b9 x.ops),cM hA rfl,?_⟩;conv=>whnf
  refine⟨_,lV,?_⟩;conv=>whnf
  refine⟨top o,rfl,?_⟩;conv=>whnf
  refine⟨.fz x.kk (b9 x.ops),cM hB rfl,?_⟩;conv=>whnf
  refine⟨_,lV,?_⟩;conv=>whnf
  refine⟨top o,rfl,?_⟩;conv=>whnf
  refine DU (BJ _) ?_;conv=>whnf
  refine aa (z:=true) ?_;conv=>whnf
  refine aa (z:=true) ?_;conv=>whnf
  refine ih (j+1) _ (by omega) (by omega) ⟨rfl,rfl,bC (by omega),trivial⟩
theorem Im(x:bu)(hx:x.ops.length<2^62):PC fs ms 21 [dG x,dG x] (.bool true):=by
 refine mb (by simp[e9,mq]) rfl ?_;refine bY (af:=Ta) rfl (Nat.le_of_ble_eq_true rfl) ?_;generalize hQ:(fun(v:AV) (_:Heap)=>v=.bool true)=Q;conv=>whnf
 refine an true ?_;conv=>whnf
 obtain⟨H,hH⟩:∃H,H=((⟨0,.nil⟩:Heap).new (.cells (dG x).cells true 0)).new (.cells (dG x).cells true 0):=⟨_,rfl⟩;have hA:H.get 0=some (.cells (dG x).cells true 0):=by rw[hH];rfl
 have hB:H.get 1=some (.cells (dG x).cells true 0):=by rw[hH];exact au (h:=(⟨0,.nil⟩:Heap).new _)
 show VC fs ms _ _ _ _ (((⟨0,.nil⟩:Heap).new (.cells (dG x).cells true 0)).new (.cells (dG x).cells true 0)) _;rw[←hH];clear hH;refine ay 3 [(2,.ptr 0 0),(3,.ptr 1 0)] ⟨rfl,rfl,trivial⟩ ?_;refine aJ (an true ?_);conv=>whnf
 refine⟨.int .i64 x.k,cM hA rfl,?_⟩;conv=>whnf
 refine⟨.int .i64 x.k,cM hB rfl,?_⟩;conv=>whnf
 rw[de];conv=>whnf
 refine⟨.int .i64 x.p,cM hA rfl,?_⟩;conv=>whnf
 refine⟨.int .i64 x.p,cM hB rfl,?_⟩;conv=>whnf
 rw[de];conv=>whnf
 refine⟨.int .i64 x.t,cM hA rfl,?_⟩;conv=>whnf
 refine⟨.int .i64 x.t,cM hB rfl,?_⟩;conv=>whnf
 rw[de];conv=>whnf
 refine⟨.int .i64 x.n,cM hA rfl,?_⟩;conv=>whnf
 refine⟨.int .i64 x.n,cM hB rfl,?_⟩;conv=>whnf
 rw[de];conv=>whnf
 refine⟨.int .i64 x.m,cM hA rfl,?_⟩;conv=>whnf
 refine⟨.int .i64 x.m,cM hB rfl,?_⟩;conv=>whnf
 rw[de];conv=>whnf
 refine⟨.fz x.kk (b9 x.ops),cM hA rfl,?_⟩;conv=>whnf
 refine⟨.fz x.kk (b9 x.ops),cM hB rfl,?_⟩;conv=>whnf
 rw[de];conv=>whnf
 refine aa (z:=true) ?_;conv=>whnf
 refine aJ (an true ?_);conv=>whnf
 refine aR ?_;refine Pv hA hB hx ?_ x.ops.length 0 _ rfl (Nat.zero_le _) ⟨rfl,rfl,rfl,trivial⟩;intro e';show VC fs ms _ false _ _ _ _;refine ay 3 [] trivial (aa (z:=true) ?_);conv=>whnf
 subst hQ;rfl
end Ir
end Go.Proofs.YtmnolnoeibhjgaaGreat
