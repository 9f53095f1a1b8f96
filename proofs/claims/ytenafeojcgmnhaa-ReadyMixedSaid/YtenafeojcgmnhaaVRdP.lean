/-
  Ready: the queue and the document's answer the same: same.
-/
import Derived.Test.YtenafeojcgmnhaaVRdO
set_option maxRecDepth 100000
set_option linter.unusedSimpArgs false
set_option linter.unusedVariables false
namespace Go.Proofs.Ytenafeojcgmnhaa
open Go Ads
namespace Ir
structure mH(h:Heap)(q:Nat)(S:List Nat)(m b es:Nat)(op:Bool)(L:List Id)(D:List Int):Prop where
 qa:sU h q S ((D.length:Nat):Int) L
 ma:qp h m b es op D
 l4:D.length≤4
 Be:yp L D
 mS:m∉S
 bS:b∉S
theorem mH.keep{h h':Heap}{q:Nat}{S:List Nat}{m b es:Nat}{op:Bool}{L:List Id}{D:List Int}(H:mH h q S m b es op L D)(fr:Fr h h' []):mH h' q S m b es op L D:=
 ⟨H.qa.keep fr (by simp),H.ma.keep fr (by simp) (by simp),H.l4,H.Be,H.mS,H.bS⟩
theorem mH.first{h:Heap}{q:Nat}{S:List Nat}{m b es:Nat}{op:Bool}{L:List Id}{D:List Int}(H:mH h q S m b es op L D):∃(x y:Int) (c:Bool),(∀{Q:AV→Heap→Prop},Q (.cg [.int .i64 x,.int .i64 y,.bool c]) h→VD fs ms 37 [.ptr q 0] h Q)∧
  ∀{Q:AV→Heap→Prop},(∀h',Fr h h' []→Q (.cg [.int .i64 x,.int .i64 y,.bool c]) h')→VD fs ms 61 [.ptr m 0] h Q:=by
 by_cases hL:L=[]
 ·refine⟨0,0,false,fun{Q} hQ=>sy H.qa (fun _=>hQ) fun x hx=>?_,fun{Q} hQ=>Bf H.ma H.l4 (fun h' _ fr=>hQ h' fr) fun h' x l hd fr=>?_⟩
  ·have:=hx.1;rw[hL] at this;simp at this
  ·have:=H.Be.none.1 hL;rw[hd] at this;cases this
 ·have hd:dj D D.length≠[]:=fun e=>hL (H.Be.none.2 e);obtain⟨x,l,hd⟩:∃x l,dj D D.length=x::l:=List.exists_cons_of_ne_nil hd;refine⟨((x:Nat):Int),gD D x,true,fun{Q} hQ=>sy H.qa (fun e=>absurd e hL) fun y hy=>?_,fun{Q} hQ=>Bf H.ma H.l4 (fun h' e fr=>?_) fun h' x' l' hd' fr=>?_⟩
  ·rw[H.Be.first hy hd];exact hQ
  ·rw[hd] at e;cases e
  ·rw[hd] at hd';cases hd';exact hQ h' fr
theorem mH.dead{h:Heap}{q:Nat}{S:List Nat}{m b es:Nat}{op:Bool}{L:List Id}{D:List Int}(H:mH h q S m b es op L D)(id:Int):∃(x:Int) (c:Bool),(∀{Q:AV→Heap→Prop},Q (.cg [.int .i64 x,.bool c]) h→VD fs ms 39 [.ptr q 0,.int .i64 id] h Q)∧
  ∀{Q:AV→Heap→Prop},Q (.cg [.int .i64 x,.bool c]) h→VD fs ms 62 [.ptr m 0,.int .i64 id] h Q:=by
 cases hb:n8 D id with
 |false=>
  refine⟨0,false,fun{Q} hQ=>zo H.qa id (fun _=>hQ) fun y e hy=>?_,fun{Q} hQ=>DV H.ma id (fun _=>hQ) fun h=>?_⟩
  ·rw[(H.Be.has id).2 ⟨y,hy,e⟩] at hb;cases hb
  ·rw[hb] at h;cases h
 |true=>
  obtain⟨y,hy,e⟩:=(H.Be.has id).1 hb;refine⟨y.2,true,fun{Q} hQ=>zo H.qa id (fun hn=>absurd e (hn y hy)) fun z e2 hz=>?_,fun{Q} hQ=>DV H.ma id (fun h=>?_) fun h=>?_⟩
  ·have:y=z:=H.qa.uniq hy hz (by omega);rw[←this];exact hQ
  ·rw[hb] at h;cases h
  ·rw[H.Be.val hy e];exact hQ
theorem dr.Gs{lo:Nat}{h:Heap}{v:AV}{l:List Int}(hr:dr lo h v l):∃k,lX (fun _=>True) h v (.fz k (ints l)):=by
 rcases hr with⟨rfl,rfl⟩|⟨b,h1,h2,rfl,h4⟩
 ·exact⟨3,.aN⟩
 ·exact⟨0,lE trivial h4 (tf l).symm (tL l) (ck l).symm (kG l)⟩
theorem dr.put{lo:Nat}{h:Heap}{v:AV}{l:List Int}(hr:dr lo h v l){i:Nat}(hi:i<l.length)(x:Int):∃b,pV (.ak 1) [v,.int .i64 ((i:Nat):Int)]=some (.ptr b (i*1))∧∃h',eV (.store 1) [.ptr b (i*1),.int .i64 x] h=some (.undef,h')∧dr lo h' v (l.set i x)∧h'.next=h.next∧∀c,c<lo→h'.get c=h.get c:=by
 rcases hr with⟨rfl,rfl⟩|⟨b,h1,h2,rfl,h4⟩
 ·simp at hi
 ·refine⟨b,bh hi,_,fQ (n:=1) (v:=.int .i64 x) h4 rfl (by rw[ck,Nat.mul_one];exact hi) rfl,.inr ⟨b,h1,h2,by rw[List.length_set],?_⟩,rfl,fun c hc=>bw (by omega)⟩;rw[aV];have:=ints_set hi x;exact congrArg (fun z=>some (cw.cells z true 1)) this
theorem KB{q m:Nat}{lo:Nat}{h0:Heap}{v:AV}{N:Nat}{B:Nat}{Q:AX→Env→Heap→Prop}(hlo:h0.next≤lo)(hN:N≤1000):
  ∀(k i:Nat) (h:Heap) (l:List Int) (env:Env),N-i=k→i≤N→l.length=N→dr lo h v l→Fr h0 h []→aW env [(0,.ptr q 0),(1,.ptr m 0),(11,v),(12,.int .i64 ((i:Nat):Int))]→
  (∀(h':Heap) (e':Env),Tr.get e' 0=some (.ptr q 0)→Tr.get e' 1=some (.ptr m 0)→Fr h0 h' []→Q (.exit 0) e' h')→
  VC fs ms B false (.loop iM) env h Q:=by
 intro k;induction k using Nat.strongRecOn with
 |ind k ih=>
 intro i h l env hk hi hl hr kC bM hQ;refine an 4 [(0,.ptr q 0),(1,.ptr m 0),(11,v),(12,.int .i64 ((i:Nat):Int))] bM ?_;refine bB (z:=true) ?_;conv=>whnf
 refine cM hr.read.1 ?_;conv=>whnf
 refine br (fun hc=>?_) (fun hc=>?_)<;>(try rw[hc])<;>(conv=>whnf)
 ·have hlt:i<l.length:=by have:=of_decide_eq_true hc;omega
  obtain⟨b,p1,h1,p2,p3,p4,p5⟩:=hr.put hlt (-1);refine⟨_,p1,?_⟩;conv=>whnf
  refine bA p2 fun wz e1=>?_;subst e1;conv=>whnf
  refine ih (N-(i+1)) (by omega) (i+1) wz _ _ rfl (by omega) (by rw[List.length_set];exact hl) p3 ⟨by have:=kC.next;omega,fun c hc _=>by rw[p5 c (by omega)];exact kC.keep c hc (by simp)⟩ ⟨rfl,rfl,rfl,aS (by omega),trivial⟩ hQ
 ·exact hQ h _ rfl rfl kC
theorem KC{h:Heap}{q:Nat}{S:List Nat}{m b es:Nat}{op:Bool}{L:List Id}{D:List Int}(H:mH h q S m b es op L D){B:Nat}{Q:AX→Env→Heap→Prop}:
  ∀(k:Nat) (j:Int) (env:Env),(6-j).toNat=k→-1≤j→aW env [(0,.ptr q 0),(1,.ptr m 0),(13,.int .i64 j)]→
  (∀(e':Env),Q (.exit 2) e' h)→VC fs ms B false (.loop iN) env h Q:=by
 intro k;induction k using Nat.strongRecOn with
 |ind k ih=>
 intro j env hk hj bM hQ;refine an 4 [(0,.ptr q 0),(1,.ptr m 0),(13,.int .i64 j)] bM ?_;refine bB (z:=true) ?_;conv=>whnf
 refine br (fun hc=>?_) (fun hc=>?_)<;>(try rw[hc])<;>(conv=>whnf)
 ·have hlt:j<6:=of_decide_eq_true hc;obtain⟨x,c,d1,d2⟩:=H.dead j;refine d1 ?_;conv=>whnf
  refine d2 ?_;conv=>whnf
  refine od (by simp) (fun hc=>?_)
  (try rw[hc])
  conv=>whnf
  refine od (by simp) (fun hc=>?_)
  (try rw[hc])
  conv=>whnf
  refine ih (6-(j+1)).toNat (by omega) (j+1) _ rfl (by omega) ⟨rfl,rfl,?_,trivial⟩ hQ;show some (AV.int .i64 (IntKind.i64.wrap (j+1)))=some (AV.int .i64 (j+1));rw[IntWalk.i64_in _ (by omega)]
 ·exact hQ _
theorem ND{h:Heap}{q:Nat}{S:List Nat}{m b es:Nat}{op:Bool}{L:List Id}{D:List Int}(H:mH h q S m b es op L D){Q:AV→Heap→Prop}(hQ:∀h',Fr h h' []→Q (.bool true) h'):VD fs ms 35 [.ptr q 0,.ptr m 0] h Q:=by
 refine bC (af:=RN) rfl (Nat.le_of_ble_eq_true rfl) ?_;conv=>whnf
 refine aa true ?_;conv=>whnf
 obtain⟨x,y,c,d1,d2⟩:=H.first;refine aa true ?_;conv=>whnf
 refine d1 ?_;conv=>whnf
 refine aa true ?_;conv=>whnf
 refine d2 fun h1 sP=>?_;conv=>whnf
 have H1:=H.keep sP;refine aa true ?_;conv=>whnf
 refine sA H1.qa fun h2 v M k1 k2 k3 k4=>?_;conv=>whnf
 have hM:=H.Be.jobs k2;have H2:=H1.keep k4;refine aa true ?_;conv=>whnf
 refine od (by simp) (fun hc=>?_)
 (try rw[hc])
 conv=>whnf
 refine od (by simp) (fun hc=>?_)
 (try rw[hc])
 conv=>whnf
 have eT:(!(c==c))=false:=by simp
 iterate 8 (all_goals (try(refine od eT (fun hc=>?_);(try rw[hc]);(conv=>whnf))))
 refine zg H2.ma H2.l4 fun h3 v2 j1 j2=>?_;conv=>whnf
 have On:=k1.keep j2;have hlen:=yJ D D.length;have Og:=H.l4;rw[hM,Je] at On;obtain⟨z1,f1⟩:=On.Gs;obtain⟨z2,f2⟩:=j1.Gs;iterate 2 (all_goals (try(refine od eT (fun hc=>?_);(try rw[hc]);(conv=>whnf))))
 refine jv (jg z1 z2 (nl (dj D D.length)) (by rw[jr];omega)) rfl (.cons f1 (.cons f2 .nil)) ?_;conv=>whnf
 iterate 4 (all_goals (try(refine od eT (fun hc=>?_);(try rw[hc]);(conv=>whnf))))
 have H3:=H2.keep j2;refine aJ (aa true ?_);conv=>whnf
 refine aG ?_;refine KB (h0:=h1) (q:=q) (m:=m) (N:=(nl (dj D D.length)).length) (Nat.le_refl _) (by rw[jr];omega) _ 0 h3 _ _ rfl (Nat.zero_le _) rfl On (k4.trans j2) ⟨rfl,rfl,rfl,rfl,trivial⟩ ?_;intro h4 e4 g0 g1 wL;show VC fs ms _ _ _ _ _ _;refine an 4 [(0,.ptr q 0),(1,.ptr m 0)] ⟨g0,g1,trivial⟩ ?_;refine aJ (aa true ?_);conv=>whnf
 refine aG ?_;refine KC (H1.keep wL) _ (-1) _ rfl (by omega) ⟨rfl,rfl,rfl,trivial⟩ ?_;intro e5;show VC fs ms _ _ _ _ _ _;refine an 3 [] trivial (aq (z:=true) ?_);conv=>whnf
 exact hQ h4 (sP.trans wL)
end Ir
end Go.Proofs.Ytenafeojcgmnhaa
