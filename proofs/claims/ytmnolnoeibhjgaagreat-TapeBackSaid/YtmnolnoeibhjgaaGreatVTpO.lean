/-
  Tape: the good ones.
-/
import Derived.Test.YtmnolnoeibhjgaaGreatVTpN
set_option maxRecDepth 100000
set_option linter.unusedSimpArgs false
set_option linter.unusedVariables false
namespace Go.Proofs.YtmnolnoeibhjgaaGreat
open Go Ads
namespace Ir
theorem pY:∀l:List nq,bz (ak (b9 l))=true
 |[]=>rfl
 |x::l=>by
  show bz (.int .i64 x.k::.int .i64 x.n::.str x.s::ak (b9 l))=true;simp only[bz,AV.flat,cond_true];exact pY l
theorem Gd(l:List nq)(h:l.length≤100000):PC fs ms 38 [.fz (cR l.length) (b9 l)] (.fz (cR l.length) (b9 l)):=by
 refine⟨by simp[e9,AV.cl,iM],by simp[AV.cl,iM],?_⟩;refine bN (af:=QD) false rfl (Nat.le_of_ble_eq_true rfl) ?_;cases l with
 |nil=>
  conv=>whnf
  exact .az
 |cons t0 tr=>
  generalize hQ:(fun(u:AV) (g:Heap)=>jr (fun _=>True) g u (.fz (cR (t0::tr).length) (b9 (t0::tr))))=Q;conv=>whnf
  refine⟨_,_,yW (s:=3) (bytes:=32) (n:=tr.length) rfl (by omega) (by simp at h;omega) ((zY (k:=0) (dK (t0::tr))).trans (by rw[bq];rfl)) (pY (t0::tr)),?_⟩;conv=>whnf
  subst hQ;exact jS (s:=3) trivial rfl rfl (dK _) (by rw[bq];rfl) (iM _)
def fe(A:List (bu×Int)):List bu:=(A.filter fun x=>x.2==0).map (·.1)
structure mH(x:bu×Int):Prop where
 k:x.1.kk=cR x.1.ops.length
 l:x.1.ops.length≤100000
theorem qZ{A:List (bu×Int)}{j:Nat}(hj:j<A.length):fe (A.take (j+1))=fe (A.take j)++(if A[j].2=0 then [A[j].1] else []):=by
 rw[dz hj,fe,List.filter_append,List.map_append];by_cases h:A[j].2=0
 ·simp[h,fe]
 ·simp[h,fe]
theorem p5(A:List (bu×Int)):(fe A).length≤A.length:=by
 rw[fe,List.length_map];exact List.length_filter_le ..
theorem N2{h0:Heap}{k:Nat}{A:List (bu×Int)}(hl:A.length≤100000)(hA:∀x∈A,mH x){B:Nat}{Q:AX→Env→Heap→Prop}(hQ:∀e' h' v,GR 6 h0.next h' v (dA (fe A))→Fr h0 h' []→Tr.get e' 2=some v→Q (.exit 0) e' h'):
  ∀(m j:Nat) (h:Heap) (env:Env) (v:AV),A.length-j=m→j≤A.length→GR 6 h0.next h v (dA (fe (A.take j)))→Fr h0 h []→
   bQ env [(2,v),(6,.fz k (fK A)),(7,.int .i64 ((A.length:Nat):Int)),(8,.int .i64 ((j:Nat):Int))]→
   VC fs ms B false (.loop mj) env h Q:=by
 intro m;induction m with
 |zero=>
  intro j h env v hm hj hr fr bg;have hjl:j=A.length:=by omega
  subst hjl;refine ay 5 _ bg ?_;refine aH (aa (z:=true) ?_);conv=>whnf
  refine k7 (by simp) (fun hc=>?_)
  (try rw[hc])
  conv=>whnf
  rw[List.take_length] at hr;exact hQ _ h v hr fr rfl
 |succ m ih=>
  intro j h env v hm hj hr fr bg;have hlt:j<A.length:=by omega
  have lV:=p7 (k:=k) hlt;have hU:=qZ hlt;obtain⟨hk,hlo⟩:=hA _ (List.getElem_mem hlt);have Li:=p5 (A.take j);rw[List.length_take] at Li;generalize hX:A[j]=x at*;refine ay 5 _ bg ?_;refine aH (an true ?_);conv=>whnf
  refine an true ?_;conv=>whnf
  refine ny (by simp;omega) (fun hc=>?_)
  (try rw[hc])
  conv=>whnf
  refine aJ (aR (an true ?_));conv=>whnf
  refine⟨_,lV,?_⟩;conv=>whnf
  refine⟨wL x,rfl,?_⟩;conv=>whnf
  refine cm (bX au rfl (Nat.le_refl _) rfl) fun h1 e1=>?_;have f1:Fr h h1 []:=by rw[e1];exact((Fr.refl h []).new).gM (Nat.le_refl _)
  have g1:h1.get h.next=some (.cells (wL x).cells true 0):=by rw[e1,aA];rfl
  have n1:h1.next=h.next+1:=by rw[e1];rfl
  clear e1;conv=>whnf
  have rK:=hr.keep f1 (by simp);have pZ:=fr.trans f1;refine an true ?_;conv=>whnf
  refine⟨.int .i64 x.2,cM g1 rfl,?_⟩;conv=>whnf
  refine cj ?_;conv=>whnf
  refine br (fun hc=>?_) (fun hc=>?_)<;>(try rw[hc])<;>(conv=>whnf)
  ·have hz:x.2=0:=by simpa using hc
   rw[if_pos hz] at hU;refine an true ?_;conv=>whnf
   refine⟨dG x.1,FG g1 (by show 0+0+6≤7;omega),?_⟩;conv=>whnf
   refine cm (bX au rfl (Nat.le_refl _) rfl) fun h2 e2=>?_;have f2:Fr h1 h2 []:=by rw[e2];exact((Fr.refl h1 []).new).gM (Nat.le_refl _)
   have g2:h2.get h1.next=some (.cells (dG x.1).cells true 0):=by rw[e2,aA];rfl
   have n2:h2.next=h1.next+1:=by rw[e2];rfl
   clear e2;have kN:=rK.keep f2 (by simp);have iu:=pZ.trans f2;conv=>whnf
   refine an true ?_;conv=>whnf
   refine⟨.fz x.1.kk (b9 x.1.ops),cM g2 rfl,?_⟩;conv=>whnf
   refine cC (by rw[hk];exact Gd x.1.ops hlo) ?_;conv=>whnf
   refine cm (bX g2 rfl (by show 0+0+5+1≤6;omega) rfl) fun h3 e3=>?_;have f3:Fr h2 h3 [h1.next]:=by rw[e3];exact(Fr.refl h2 _).set (by simp)
   have g3:h3.get h1.next=some (.cells (dG x.1).cells true 0):=by
    rw[e3,aA];simp only[dG,AV.cells,hk];rfl
   clear e3;have fn:=fr.next;have f13:Fr h1 h3 []:=⟨by have:=f3.next;omega,fun c hc _=>(f3.keep c (by omega) (by simp;omega)).trans (f2.keep c hc (by simp))⟩;have x8:=rK.keep f13 (by simp);have qY:=pZ.trans f13;conv=>whnf
   refine aa (z:=true) ?_;conv=>whnf
   refine⟨dG x.1,FG g3 (Nat.le_refl _),?_⟩;conv=>whnf
   obtain⟨v',g',ha,A4,Ql,uG⟩:=GR.app (bytes:=64) x8 qY.next (x:=dG x.1) rfl rfl (iX _) (by rw[cD];omega) (by rw[cD];omega);refine⟨_,_,ha,?_⟩;have uz:Fr h0 g' []:=qY.app Ql (fun c hc=>uG c hc);conv=>whnf
   refine aa (z:=true) ?_;conv=>whnf
   refine ih (j+1) g' _ v' (by omega) (by omega) (by rw[hU,dA,List.map_append];exact A4) uz ⟨rfl,rfl,rfl,bC (by omega),trivial⟩
  ·have hz:¬x.2=0:=by simpa using hc
   rw[if_neg hz,List.append_nil] at hU;refine aa (z:=true) ?_;conv=>whnf
   refine aa (z:=true) ?_;conv=>whnf
   refine ih (j+1) h1 _ v (by omega) (by omega) (by rw[hU];exact rK) pZ ⟨rfl,rfl,rfl,bC (by omega),trivial⟩
theorem N1{k:Nat}{A:List (bu×Int)}(hl:A.length≤100000)(hA:∀x∈A,mH x){h:Heap}{Q:AV→Heap→Prop}(hQ:∀v h',GR 6 h.next h' v (dA (fe A))→Fr h h' []→Q v h'):VD fs ms 17 [.fz k (fK A)] h Q:=by
 refine bY (af:=QC) rfl (Nat.le_of_ble_eq_true rfl) ?_;conv=>whnf
 refine an true ?_;conv=>whnf
 refine aJ (an true ?_);conv=>whnf
 rw[eo];refine aR ?_;refine N2 (h0:=h) hl hA ?_ A.length 0 h _ .az rfl (Nat.zero_le _) (.inl ⟨rfl,rfl⟩) (Fr.refl _ _) ⟨rfl,rfl,rfl,rfl,trivial⟩;intro e' h' v hr fr h2;show VC fs ms h.next false _ _ _ _;refine ay 3 [(2,v)] ⟨h2,trivial⟩ (aa (z:=true) ?_);conv=>whnf
 exact hQ v h' hr fr
end Ir
end Go.Proofs.YtmnolnoeibhjgaaGreat
