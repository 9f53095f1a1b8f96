/-
  Rank: in which order ids are put. The contract of RankMixed.
-/
import Derived.Test.YtenafeojcgmnhaaVRkC
import Derived.Test.YtenafeojcgmnhaaVRkD
import Derived.Test.YtenafeojcgmnhaaVRs
set_option maxRecDepth 100000
set_option linter.unusedSimpArgs false
set_option linter.unusedVariables false
namespace Go.Proofs.Ytenafeojcgmnhaa
open Go Ads
namespace Ir
theorem Own.LA{h h':Heap}{S S' T:List Nat}(o:Own h h' S S')(hT:∀c∈T,c<h.next)(hd:∀c∈T,c∉S):∀c∈T,c∉S':=by
 intro c hc h1;rcases o.new c h1 with h2|h2
 ·exact hd c hc h2
 ·have:=hT c hc;omega
theorem Pq{V:List Int}{i:Nat}(h:i<V.length):gN V i=V[i]:=by simp[gN,List.getD_eq_getElem?_getD,List.getElem?_eq_getElem h]
theorem JE{V:List Int}{z i:Nat}(h:i<V.length):pV (.ak 1) [.fz z (ints V),.int .i64 ((i:Nat):Int)]=some (.fp [.int .i64 (gN V i)] 0):=by
 rw[Pq h];exact zb h
structure TR(h:Heap)(ka pa:Nat)(Sa:List Nat)(La:List Id)(kb pb:Nat)(Sb:List Nat)(Lb:List Id):Prop where
 ra:∃P,mG h ka pa Sa La P
 rb:∃P,mG h kb pb Sb Lb P
 EB:∀c∈Sa,c∉Sb
theorem TR.U2{h h':Heap}{ka pa kb pb:Nat}{Sa I0 Sb:List Nat}{La KN Lb:List Id}{P:Nat→Nat}(T:TR h ka pa Sa La kb pb Sb Lb)(hr:mG h' ka pa I0 KN P)(o:Own h h' Sa I0):TR h' ka pa I0 KN kb pb Sb Lb:=by
 obtain⟨Pb,rb⟩:=T.rb;have hd:∀c∈Sb,c∉Sa:=fun c hc ha=>T.EB c ha hc;exact⟨⟨P,hr⟩,⟨Pb,rb.keep o.fr hd⟩,fun c ha hb=>o.LA rb.own.2.2 hd c hb ha⟩
theorem TR.Nu{h h':Heap}{ka pa kb pb:Nat}{Sa Sb FJ:List Nat}{La Lb FF:List Id}{P:Nat→Nat}(T:TR h ka pa Sa La kb pb Sb Lb)(hr:mG h' kb pb FJ FF P)(o:Own h h' Sb FJ):TR h' ka pa Sa La kb pb FJ FF:=by
 obtain⟨Pa,ra⟩:=T.ra;exact⟨⟨Pa,ra.keep o.fr T.EB⟩,⟨P,hr⟩,o.LA ra.own.2.2 T.EB⟩
theorem TR.keep{h h':Heap}{ka pa kb pb:Nat}{Sa Sb:List Nat}{La Lb:List Id}(T:TR h ka pa Sa La kb pb Sb Lb)(fr:Fr h h' []):TR h' ka pa Sa La kb pb Sb Lb:=by
 obtain⟨Pa,ra⟩:=T.ra;obtain⟨Pb,rb⟩:=T.rb;exact⟨⟨Pa,ra.keep fr (by simp)⟩,⟨Pb,rb.keep fr (by simp)⟩,T.EB⟩
def IT(z:Nat)(V:List Int)(tn:Int)(ka kb N:Nat):List (Nat×AV):=[(0,.fz z (ints V)),(1,.int .i64 tn),(5,.ptr ka 0),(6,.ptr kb 0),(7,.int .i64 ((N:Nat):Int))]
theorem mxA{V:List Int}{N z ka pa kb pb:Nat}{tn:Int}{B:Nat}{Q:AX→Env→Heap→Prop}(hN:N≤64)(hV:N≤V.length){Sb:List Nat}
  (hQ:∀h' S L e',TR h' ka pa S L kb pb Sb []→(∀y,y∈L↔∃j,j<N∧y=(j,gN V j))→aW e' (IT z V tn ka kb N)→Q (.exit 0) e' h'):
  ∀(m i:Nat) (h:Heap) (S:List Nat) (L:List Id) (env:Env),N-i=m→i≤N→TR h ka pa S L kb pb Sb []→(∀y,y∈L↔∃j,j<i∧y=(j,gN V j))→aW env (IT z V tn ka kb N++[(8,.int .i64 ((i:Nat):Int))])→
  VC fs ms B false (.loop fI) env h Q:=by
 intro m;induction m using Nat.strongRecOn with
 |ind m ih=>
 intro i h S L env hm hi T hL bM;refine an 4 _ bM ?_;refine bB (z:=true) ?_;unfold IT;conv=>whnf
 refine br (fun hc=>?_) (fun hc=>?_)<;>(try rw[hc])<;>(conv=>whnf)
 ·have hlt:i<N:=by have:=of_decide_eq_true hc;omega
  refine⟨_,JE (show i<V.length by omega),?_⟩;conv=>whnf
  refine⟨_,rfl,?_⟩;conv=>whnf
  obtain⟨P,hr⟩:=T.ra;refine uc hr _ _ (fun hb=>by omega) (fun y hy e=>?_) fun j hj _ hno h1 S1 L1 P1 r1 r2 r3=>?_
  ·obtain⟨j,hj,rfl⟩:=(hL y).1 hy;simp only at e;omega
  ·obtain rfl:i=j:=by omega
   conv=>whnf
   refine ih (N-(i+1)) (by omega) (i+1) h1 S1 L1 _ rfl (by omega) (T.U2 r1 r3) (fun y=>?_) (by repeat' (first|exact trivial|refine And.intro (by first|with_reducible_and_instances rfl|(refine Eq.trans (b:=some (AV.int .i64 _)) rfl (congrArg (fun z=>some (AV.int .i64 z)) ?_);first|omega|(simp(disch:=omega) only[IntWalk.i64_in]<;>omega))|rfl) ?_));rw[r2,hL];constructor
   ·rintro(⟨j,h1,h2⟩|h2)
    ·exact⟨j,by omega,h2⟩
    ·exact⟨i,by omega,h2⟩
   ·rintro⟨j,h1,h2⟩;by_cases e:j=i
    ·subst e;exact .inr h2
    ·exact .inl ⟨j,by omega,h2⟩
 ·have hge:i=N:=by have:=of_decide_eq_false hc;omega
  subst hge;exact hQ h S L _ T hL (by repeat' (first|exact trivial|refine And.intro (by first|with_reducible_and_instances rfl|(refine Eq.trans (b:=some (AV.int .i64 _)) rfl (congrArg (fun z=>some (AV.int .i64 z)) ?_);first|omega|(simp(disch:=omega) only[IntWalk.i64_in]<;>omega))|rfl) ?_))
def ti(N s j:Nat):Nat:=if j+s<N then j+s else j+s-N
theorem Lq{N s j:Nat}(hj:j<N)(hs:s<N):ti N s j<N:=by unfold ti;split<;>omega
theorem NJ{N s i j:Nat}(hi:i<N)(hj:j<N)(hs:s<N)(h:ti N s i=ti N s j):i=j:=by
 unfold ti at h;split at h<;>split at h<;>omega
theorem NL{N s t:Nat}(ht:t<N)(hs:s<N):∃j,j<N∧ti N s j=t:=by
 by_cases h:s≤t
 ·exact⟨t-s,by omega,by unfold ti;rw[if_pos (by omega)];omega⟩
 ·exact⟨t+N-s,by omega,by unfold ti;rw[if_neg (by omega)];omega⟩
theorem NK{N s j:Nat}(hN:N≤64)(hj:j<N)(hs:s<N):pV (.bin .rem) [.int .i64 (IntKind.i64.wrap (((j:Nat):Int)+((s:Nat):Int))),.int .i64 ((N:Nat):Int)]=some (.int .i64 ((ti N s j:Nat):Int)):=by
 rw[nN _ _ (by omega),IntWalk.i64_in _ (by omega)];have e:(((j:Nat):Int)+((s:Nat):Int)).tmod ((N:Nat):Int)=(((j+s)%N:Nat):Int):=by
  rw[show((j:Nat):Int)+((s:Nat):Int)=((j+s:Nat):Int) by omega];exact(Int.ofNat_tmod _ _).symm
 have e2:(j+s)%N=ti N s j:=by
  unfold ti;split
  ·exact Nat.mod_eq_of_lt (by assumption)
  ·rw[Nat.mod_eq_sub_mod (by omega),Nat.mod_eq_of_lt (by omega)]
 rw[e,e2]
theorem mxB{V:List Int}{N z ka pa kb pb s:Nat}{tn:Int}{B:Nat}{Q:AX→Env→Heap→Prop}(hN:N≤64)(hV:N≤V.length)(hs:0<N→eR tn N=((s:Nat):Int)∧s<N){Sa:List Nat}{La:List Id}
  (hQ:∀h' S L e',TR h' ka pa Sa La kb pb S L→(∀y,y∈L↔∃j,j<N∧y=(ti N s j,gN V (ti N s j)))→aW e' (IT z V tn ka kb N)→Q (.exit 2) e' h'):
  ∀(m i:Nat) (h:Heap) (S:List Nat) (L:List Id) (env:Env),N-i=m→i≤N→TR h ka pa Sa La kb pb S L→(∀y,y∈L↔∃j,j<i∧y=(ti N s j,gN V (ti N s j)))→aW env (IT z V tn ka kb N++[(9,.int .i64 ((i:Nat):Int))])→
  VC fs ms B false (.loop dA) env h Q:=by
 intro m;induction m using Nat.strongRecOn with
 |ind m ih=>
 intro i h S L env hm hi T hL bM;refine an 4 _ bM ?_;refine cK (aa true ?_);unfold IT;conv=>whnf
 refine br (fun hc=>?_) (fun hc=>?_)<;>(try rw[hc])<;>(conv=>whnf)
 ·have hlt:i<N:=by have:=of_decide_eq_true hc;omega
  obtain⟨hb,UC⟩:=hs (by omega);have htN:=Lq hlt UC;obtain⟨t,ht⟩:∃t,ti N s i=t:=⟨_,rfl⟩;rw[ht] at htN;have Qt:=NK hN hlt UC;rw[ht] at Qt;refine aJ (aG (aa true ?_));conv=>whnf
  refine aZ (gP tn N (by omega) (by omega)) ?_;conv=>whnf
  rw[hb];refine⟨_,Qt,?_⟩;conv=>whnf
  have hno:∀y∈L,y.1≠t:=by
   intro y hy e;obtain⟨j,hj,rfl⟩:=(hL y).1 hy;have:=NJ (by omega) hlt UC (e.trans ht.symm);omega
  have fin:∀{h1:Heap} {S1:List Nat} {L1:List Id},TR h1 ka pa Sa La kb pb S1 L1→(∀y,y∈L1↔y∈L∨y=(t,gN V t))→∀{env},aW env (IT z V tn ka kb N++[(9,.int .i64 ((i+1:Nat):Int))])→VC fs ms B false (.loop dA) env h1 Q:=by
   intro h1 S1 L1 T1 m1 Wq sQ;refine ih (N-(i+1)) (by omega) (i+1) h1 S1 L1 _ rfl (by omega) T1 (fun y=>?_) sQ;rw[m1,hL];constructor
   ·rintro(⟨j,h1,h2⟩|h2)
    ·exact⟨j,by omega,h2⟩
    ·exact⟨i,by omega,by rw[ht];exact h2⟩
   ·rintro⟨j,h1,h2⟩;by_cases e:j=i
    ·subst e;rw[ht] at h2;exact .inr h2
    ·exact .inl ⟨j,by omega,h2⟩
  have UD:t<V.length:=by omega
  refine an 4 [(0,.fz z (ints V)),(1,.int .i64 tn),(5,.ptr ka 0),(6,.ptr kb 0),(7,.int .i64 ((N:Nat):Int)),(9,.int .i64 ((i:Nat):Int)),(10,.int .i64 ((t:Nat):Int))] ⟨rfl,rfl,rfl,rfl,rfl,rfl,rfl,trivial⟩ ?_;refine aq (z:=true) ?_;conv=>whnf
  refine⟨_,JE UD,?_⟩;conv=>whnf
  refine⟨_,rfl,?_⟩;conv=>whnf
  obtain⟨P,hr⟩:=T.rb;refine uc hr _ _ (fun hb=>by omega) (fun y hy e=>absurd (show y.1=t by omega) (hno y hy)) fun j hj _ _ h1 S1 L1 P1 r1 r2 r3=>?_;obtain rfl:t=j:=by omega
  have T1:=T.Nu r1 r3;generalize hM:cond (decide ((1099511627776:Int)>gN V t)) 1099511627776 (gN V t)=M at r2;have Wr:gN V t≤M:=by
   rw[←hM];cases hd:decide ((1099511627776:Int)>gN V t) with
   |true=>have:=of_decide_eq_true hd;simp only[cond_true];omega
   |false=>simp only[cond_false];omega
  conv=>whnf
  refine⟨_,JE UD,?_⟩;conv=>whnf
  refine⟨_,rfl,?_⟩;conv=>whnf
  have UQ:((t,M):Id)∈L1:=(r2 _).2 (.inr rfl);refine pQ r1 _ _ (fun hb=>by omega) (fun _ hn=>absurd rfl (hn _ UQ)) (fun y e hy rY=>?_) fun y e hy _ h2 S2 L2 P2 q1 q2 q3=>?_
  ·exfalso;rcases(r2 y).1 hy with h0|h0
   ·exact hno y h0 (by omega)
   ·subst h0;simp only at rY;omega
  have T2:=T1.Nu q1 q3;have UL:y.1=t:=by omega
  rw[UL] at q2;have m2:∀y,y∈L2↔y∈L∨y=(t,gN V t):=by
   intro x;rw[q2,r2];constructor
   ·rintro(⟨h1|h1,h2⟩|h1)
    ·exact .inl h1
    ·subst h1;exact absurd rfl h2
    ·exact .inr h1
   ·rintro(h1|h1)
    ·exact .inl ⟨.inl h1,hno x h1⟩
    ·exact .inr h1
  conv=>whnf
  refine⟨_,nN _ _ (by decide),?_⟩;conv=>whnf
  refine br (fun hc=>?_) (fun hc=>?_)<;>(try rw[hc])<;>(conv=>whnf)
  ·have UR:((t,gN V t):Id)∈L2:=(m2 _).2 (.inr rfl);refine oT q1 _ (fun hn=>absurd rfl (hn _ UR)) fun y e hy h3 S3 L3 P3 p1 p2 p3=>?_;have UL:y.1=t:=by omega
   rw[UL] at p2;have T3:=T2.Nu p1 p3;conv=>whnf
   refine⟨_,JE UD,?_⟩;conv=>whnf
   refine⟨_,rfl,?_⟩;conv=>whnf
   refine uc p1 _ _ (fun hb=>by omega) (fun y hy e=>absurd (show y.1=t by omega) ((p2 y).1 hy).2) fun j hj _ _ h4 S4 L4 P4 o1 o2 o3=>?_;obtain rfl:t=j:=by omega
   conv=>whnf
   refine aq (z:=true) ?_;conv=>whnf
   refine fin (T3.Nu o1 o3) (fun x=>?_) (by repeat' (first|exact trivial|refine And.intro (by first|with_reducible_and_instances rfl|(refine Eq.trans (b:=some (AV.int .i64 _)) rfl (congrArg (fun z=>some (AV.int .i64 z)) ?_);first|omega|(simp(disch:=omega) only[IntWalk.i64_in]<;>omega))|rfl) ?_));rw[o2,p2,m2];constructor
   ·rintro(⟨h1|h1,h2⟩|h1)
    ·exact .inl h1
    ·exact .inr h1
    ·exact .inr h1
   ·rintro(h1|h1)
    ·exact .inl ⟨.inl h1,hno x h1⟩
    ·exact .inr h1
  ·refine aq (z:=true) ?_;conv=>whnf
   exact fin T2 m2 (by repeat' (first|exact trivial|refine And.intro (by first|with_reducible_and_instances rfl|(refine Eq.trans (b:=some (AV.int .i64 _)) rfl (congrArg (fun z=>some (AV.int .i64 z)) ?_);first|omega|(simp(disch:=omega) only[IntWalk.i64_in]<;>omega))|rfl) ?_))
 ·have hge:i=N:=by have:=of_decide_eq_false hc;omega
  subst hge;exact hQ h S L _ T hL (by repeat' (first|exact trivial|refine And.intro (by first|with_reducible_and_instances rfl|(refine Eq.trans (b:=some (AV.int .i64 _)) rfl (congrArg (fun z=>some (AV.int .i64 z)) ?_);first|omega|(simp(disch:=omega) only[IntWalk.i64_in]<;>omega))|rfl) ?_))
theorem Bt{z:Nat}{V:List Int}(hl:V.length<2^62)(tn:Int):PC fs ms 4 [.fz z (ints V),.int .i64 tn] (.bool true):=by
 refine j9 (by simp[iy,AV.cl,kG]) rfl ?_;generalize hK:(fun(u:AV) (_:Heap)=>u=.bool true)=K;have BO:∀h,K (.bool true) h:=fun h=>by subst hK;rfl
 clear hK;generalize(⟨0,.nil⟩:Heap)=h0;obtain⟨N,hN,Px,VH⟩:∃N,N=min V.length 64∧N≤64∧N≤V.length:=⟨_,rfl,Nat.min_le_right _ _,Nat.min_le_left _ _⟩;have hs:∃s,0<N→eR tn N=((s:Nat):Int)∧s<N:=by
  refine⟨(eR tn N).toNat,fun h=>?_⟩;have h0:0≤eR tn N:=Int.emod_nonneg _ (by omega);have h1:eR tn N<N:=Int.emod_lt_of_pos _ (by omega);omega
 obtain⟨s,hs⟩:=hs;refine bC (af:=C4) rfl (Nat.le_of_ble_eq_true rfl) ?_;conv=>whnf
 refine aa true ?_;conv=>whnf
 refine aa true ?_;conv=>whnf
 refine vT fun h1 ka pa V1 Uy hpa fra=>?_;conv=>whnf
 refine vT fun h2 kb pb hrb VZ hpb frb=>?_;conv=>whnf
 have T:TR h2 ka pa [ka,pa] [] kb pb [kb,pb] []:=by
  refine⟨⟨_,V1.keep frb (by simp)⟩,⟨_,hrb⟩,fun c hc tw=>?_⟩;have h1:=V1.own.2.2 c hc;simp at tw;omega
 refine aa true ?_;conv=>whnf
 rw[ck];have eN:cond (decide ((64:Int)<((V.length:Nat):Int))) 64 ((V.length:Nat):Int)=((N:Nat):Int):=by
  cases hd:decide ((64:Int)<((V.length:Nat):Int)) with
  |true=>have:=of_decide_eq_true hd;simp only[cond_true];omega
  |false=>have:=of_decide_eq_false hd;simp only[cond_false];omega
 refine an 4 (IT z V tn ka kb N) ⟨rfl,rfl,rfl,rfl,congrArg (fun z=>some (AV.int .i64 z)) eN,trivial⟩ ?_;clear eN hN;refine aJ (aa true ?_);conv=>whnf
 refine aG ?_;refine mxA (tn:=tn) Px VH ?_ _ 0 h2 _ [] _ rfl (Nat.zero_le _) T (fun y=>⟨fun h=>by simp at h,fun⟨j,hj,_⟩=>by omega⟩) (by repeat' (first|exact trivial|refine And.intro (by first|with_reducible_and_instances rfl|(refine Eq.trans (b:=some (AV.int .i64 _)) rfl (congrArg (fun z=>some (AV.int .i64 z)) ?_);first|omega|(simp(disch:=omega) only[IntWalk.i64_in]<;>omega))|rfl) ?_));intro h3 S3 L3 e3 T3 m3 Mt;show VC fs ms _ _ _ _ _ _;refine an 4 _ Mt (aJ (aa true ?_));unfold IT;conv=>whnf
 refine aG ?_;refine mxB (tn:=tn) Px VH hs ?_ _ 0 h3 _ [] _ rfl (Nat.zero_le _) T3 (fun y=>⟨fun h=>by simp at h,fun⟨j,hj,_⟩=>by omega⟩) (by repeat' (first|exact trivial|refine And.intro (by first|with_reducible_and_instances rfl|(refine Eq.trans (b:=some (AV.int .i64 _)) rfl (congrArg (fun z=>some (AV.int .i64 z)) ?_);first|omega|(simp(disch:=omega) only[IntWalk.i64_in]<;>omega))|rfl) ?_));intro h4 S4 L4 e4 T4 m4 TX;show VC fs ms _ _ _ _ _ _;have hall:∀y,y∈L4↔y∈L3:=by
  intro y;rw[m4,m3];constructor
  ·rintro⟨j,hj,rfl⟩;exact⟨_,Lq hj (hs (by omega)).2,rfl⟩
  ·rintro⟨t,ht,rfl⟩;obtain⟨j,hj,e⟩:=NL ht (hs (by omega)).2;exact⟨j,hj,by rw[e]⟩
 obtain⟨Pa,ra⟩:=T4.ra;have hlen:L3.length=N:=by
  have wB:=ra.pl.nd;have h1:L3.length=((List.range N).map fun j=>((j,gN V j):Id)).length:=by
   refine vv wB ?_ fun y=>?_
   ·show List.Pairwise (· ≠·) _;rw[List.pairwise_map];exact List.Pairwise.imp (fun h e=>h (congrArg Prod.fst e)) (List.nodup_range (n:=N))
   ·rw[m3,List.mem_map];constructor
    ·rintro⟨j,hj,rfl⟩;exact⟨j,List.mem_range.2 hj,rfl⟩
    ·rintro⟨j,hj,rfl⟩;exact⟨j,List.mem_range.1 hj,rfl⟩
  rw[h1,List.length_map,List.length_range]
 refine an 4 _ TX (aq (z:=true) ?_);unfold IT;conv=>whnf
 refine uC ra fun h5 v5 M5 i5 o5 DD=>?_;conv=>whnf
 have T5:=T4.keep DD;obtain⟨Pb,rb⟩:=T5.rb;refine uC rb fun h6 v6 M6 i6 o6 Ma=>?_;conv=>whnf
 have hM:M5=M6:=sN Dl yu M5 M6 o5.S7 o6.S7 fun y=>by rw[o5.mem,o6.mem,hall]
 subst hM;have xK:=ra.pl.mj;have l5:=o5.len;have Wa:=i5.keep Ma;obtain⟨z1,f1⟩:=Wa.fz;obtain⟨z2,f2⟩:=i6.fz;refine jv (jg z1 z2 (oe M5) (by rw[dw];omega)) rfl (.cons f1 (.cons f2 .nil)) ?_;conv=>whnf
 refine cM Wa.read.1 ?_;conv=>whnf
 rw[dw,l5,hlen];rw[show(((N:Nat):Int)==((N:Nat):Int))=true by simp];conv=>whnf
 refine aZ qi ?_;conv=>whnf
 exact BO _
end Ir
end Go.Proofs.Ytenafeojcgmnhaa
