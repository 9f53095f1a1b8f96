/-
  Ready: call by call.
-/
import Derived.Test.YtenafeojcgmnhaaVRdP
import Derived.KernelRfl
set_option maxRecDepth 100000
set_option linter.unusedSimpArgs false
set_option linter.unusedVariables false
namespace Go.Proofs.Ytenafeojcgmnhaa
open Go Ads
namespace Ir
theorem nh:PC fs ms 36 [] (.bool true):=Ln (n:=1000000) (by kernel_rfl)
abbrev xj:=Int×Int×Int
def Fu(x:xj):AV:=.agg [.int .i64 x.1,.int .i64 x.2.1,.int .i64 x.2.2]
def rK(l:List xj):List AV:=l.map Fu
theorem rL(l:List xj):(rK l).length=l.length:=List.length_map ..
theorem B6(l:List xj):iy (rK l)=true:=rE (enc:=Fu) (fun _=>rfl) l
theorem DN{l:List xj}{j k:Nat}(hj:j<l.length):pV (.ak 3) [.fz k (rK l),.int .i64 ((j:Nat):Int)]=some (.fp (Fu l[j]).cells 0):=
 pP (x:=Fu l[j]) (by rw[rK,List.getElem?_map,List.getElem?_eq_getElem hj];rfl) rfl
theorem mH.put{h:Heap}{q:Nat}{S:List Nat}{m b es:Nat}{op:Bool}{L:List Id}{D:List Int}(H:mH h q S m b es op L D)(t d:Int):∃e:Int,∀{Q:AV→Heap→Prop},
  (∀h1 S1 L1,Own h h1 S S1→(∀{Q2:AV→Heap→Prop},(∀h2 D2,mH h2 q S1 m b es op L1 D2→Fr h1 h2 [b]→Q2 (.int .i64 e) h2)→VD fs ms 30 [.ptr m 0,.int .i64 t,.int .i64 d] h1 Q2)→Q (.int .i64 e) h1)→VD fs ms 29 [.ptr q 0,.int .i64 t,.int .i64 d] h Q:=by
 have HQ:Own h h S S:=⟨Fr.refl _ _,fun b hb=>.inl hb⟩;by_cases c1:t<0∨((D.length:Nat):Int)≤t
 ·refine⟨9,fun{Q} hQ=>oP H.qa t d (fun _=>?_) (fun h=>absurd c1 h) (fun h=>absurd c1 h) fun _ i hi hlt=>by omega⟩;refine hQ h S L HQ fun{Q2} h2=>zi H.ma t d (fun _=>?_) (fun h=>absurd c1 h) (fun h=>absurd c1 h) fun _ i hi hlt=>by omega
  exact h2 h D H (Fr.refl _ _)
 by_cases c2:d<0∨1099511627840<d
 ·refine⟨2,fun{Q} hQ=>oP H.qa t d (fun h=>absurd h c1) (fun _ _=>?_) (fun _ h=>absurd c2 h) fun h=>absurd c2 h⟩;refine hQ h S L HQ fun{Q2} h2=>zi H.ma t d (fun h=>absurd h c1) (fun _ _=>?_) (fun _ h=>absurd c2 h) fun h=>absurd c2 h;exact h2 h D H (Fr.refl _ _)
 obtain⟨i,rfl⟩:∃i:Nat,t=i:=⟨t.toNat,by omega⟩;have hi:i<D.length:=by omega
 by_cases c3:0≤gD D i
 ·have hy:=H.Be.of i hi c3;refine⟨141,fun{Q} hQ=>oP H.qa _ d (fun h=>absurd h c1) (fun _ h=>absurd h c2) (fun _ _ y hy e=>?_) fun _ j hj _ hno=>?_⟩
  ·refine hQ h S L HQ fun{Q2} h2=>zi H.ma _ d (fun h=>absurd h c1) (fun _ h=>absurd h c2) (fun _ _ _=>h2 h D H (Fr.refl _ _)) fun _ j hj hlt hneg=>?_;have:i=j:=by omega
   subst this;omega
  ·have:=hno _ hy;exact absurd (show i=j by omega) this
 ·refine⟨0,fun{Q} hQ=>oP H.qa _ d (fun h=>absurd h c1) (fun _ h=>absurd h c2) (fun _ _ y hy e=>?_) fun _ j hj _ hno h1 S1 L1 r1 r2 r3=>?_⟩
  ·have:=H.Be.to y hy;have e2:i=y.1:=by omega
   rw[e2] at c3;omega
  ·have hij:i=j:=by omega
   subst hij;have UZ:m∉S1:=by
    intro hm;rcases r3.new m hm with h|h
    ·exact H.mS h
    ·have:=H.ma.lm;omega
   have OY:b∉S1:=by
    intro hm;rcases r3.new b hm with h|h
    ·exact H.bS h
    ·have:=H.ma.lb;omega
   refine hQ h1 S1 L1 r3 fun{Q2} k2=>zi (H.ma.keep r3.fr H.mS H.bS) _ d (fun h=>absurd h c1) (fun _ h=>absurd h c2) (fun _ _ h=>absurd h c3) fun _ j' hj' hlt hneg h2 s1 s2=>?_;have hij:i=j':=by omega
   subst hij;refine k2 h2 (D.set i d) ⟨?_,s1,by rw[List.length_set];exact H.l4,H.Be.put hi (by omega) hneg r2,UZ,OY⟩ s2;rw[List.length_set];exact r1.keep s2 (fun c hc hcb=>OY (by simp at hcb;rwa [←hcb]))
theorem mH.remove{h:Heap}{q:Nat}{S:List Nat}{m b es:Nat}{op:Bool}{L:List Id}{D:List Int}(H:mH h q S m b es op L D)(t:Int):∃e:Bool,∀{Q:AV→Heap→Prop},
  (∀h1 S1 L1,Own h h1 S S1→(∀{Q2:AV→Heap→Prop},(∀h2 D2,mH h2 q S1 m b es op L1 D2→Fr h1 h2 [b]→Q2 (.bool e) h2)→VD fs ms 32 [.ptr m 0,.int .i64 t] h1 Q2)→Q (.bool e) h1)→VD fs ms 31 [.ptr q 0,.int .i64 t] h Q:=by
 have HQ:Own h h S S:=⟨Fr.refl _ _,fun b hb=>.inl hb⟩;cases hb:n8 D t with
 |false=>
  refine⟨false,fun{Q} hQ=>p8 H.qa t (fun _=>?_) fun y e hy=>?_⟩
  ·refine hQ h S L HQ fun{Q2} h2=>xU H.ma t (fun _=>h2 h D H (Fr.refl _ _)) fun i hi hlt h0=>?_;have:=(H.Be.has t).2 ⟨(i,gD D i),H.Be.of i hlt h0,hi⟩;rw[hb] at this;cases this
  ·rw[(H.Be.has t).2 ⟨y,hy,e⟩] at hb;cases hb
 |true=>
  obtain⟨y,hy,e⟩:=(H.Be.has t).1 hb;refine⟨true,fun{Q} hQ=>p8 H.qa t (fun hn=>absurd e (hn y hy)) fun z e2 hz h1 S1 L1 r1 r2 r3=>?_⟩;have hyz:y=z:=H.qa.uniq hy hz (by omega);subst hyz;have UZ:m∉S1:=by
   intro hm;rcases r3.new m hm with h|h
   ·exact H.mS h
   ·have:=H.ma.lm;omega
  have OY:b∉S1:=by
   intro hm;rcases r3.new b hm with h|h
   ·exact H.bS h
   ·have:=H.ma.lb;omega
  refine hQ h1 S1 L1 r3 fun{Q2} k2=>xU (H.ma.keep r3.fr H.mS H.bS) _ (fun h=>by rw[hb] at h;cases h) fun i hi hlt h0 h2 s1 s2=>?_;have Ub:y.1=i:=by omega
  refine k2 h2 (D.set i (-1)) ⟨?_,s1,by rw[List.length_set];exact H.l4,H.Be.remove hlt (by rw[←Ub];exact r2),UZ,OY⟩ s2;rw[List.length_set];exact r1.keep s2 (fun c hc hcb=>OY (by simp at hcb;rwa [←hcb]))
theorem mH.late{h:Heap}{q:Nat}{S:List Nat}{m b es:Nat}{op:Bool}{L:List Id}{D:List Int}(H:mH h q S m b es op L D)(now:Int){Q:AV→Heap→Prop}
  (hQ:∀h1 v l,l.length≤4→dr h.next h1 v l→Fr h h1 []→(∀{Q2:AV→Heap→Prop},(∀h2 v2,dr h1.next h2 v2 l→Fr h1 h2 []→Q2 v2 h2)→VD fs ms 34 [.ptr m 0,.int .i64 now] h1 Q2)→Q v h1):VD fs ms 33 [.ptr q 0,.int .i64 now] h Q:=by
 refine D8 H.qa now fun h1 v M k1 k2 k3 k4=>?_;have hM:=H.Be.jobs k2;have hl:=uE M now;refine hQ h1 v (oe (uD M now)) (by rw[dw];omega) k1 k4 fun{Q2} hQ2=>J8 (H.ma.keep k4 (by simp) (by simp)) H.l4 now fun h2 v2 j1 j2=>hQ2 h2 v2 ?_ j2;rw[hM,Gb];exact j1
end Ir
end Go.Proofs.Ytenafeojcgmnhaa
