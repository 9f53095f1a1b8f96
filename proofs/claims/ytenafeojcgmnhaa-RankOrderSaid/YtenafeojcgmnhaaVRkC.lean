/-
  Rank: the first loop of RankOrder.
-/
import Derived.Test.YtenafeojcgmnhaaVRkB
set_option maxRecDepth 100000
set_option linter.unusedSimpArgs false
set_option linter.unusedVariables false
namespace Go.Proofs.Ytenafeojcgmnhaa
open Go Ads
namespace Ir
theorem Nt.put{h h1 h2:Heap}{k p t u:Nat}{S S':List Nat}{L L':List Id}{P P':Nat→Nat}{W:List Bool}{V:List Int}(N:Nt h k p S L P t u W V){i:Nat}(hi:i<64){key:Int}(hno:∀y∈L,y.1≠i)(hr:mG h1 k p S' L' P')(hL:∀y,y∈L'↔y∈L∨y=(i,key))(o:Own h h1 S S')
  (e:h2=(h1.set t (.cells (bol (W.set i true)) true 0)).set u (.cells (ints (V.set i key)) true 0)):Nt h2 k p S' L' P' t u (W.set i true) (V.set i key)∧L'.length=L.length+1:=by
 subst e;have B:=N.nb o;have B2:=(B.NG N.tu (W.set i true)).Rp N.tu (V.set i key);have hw:i<W.length:=by rw[N.wl];exact hi
 have hv:i<V.length:=by rw[N.vl];exact hi
 refine⟨⟨(hr.set B.tS _).set B.uS _,B2.gt,B2.gu,B2.lt,B2.lu,B2.tS,B2.uS,N.tu,by rw[List.length_set];exact N.wl,by rw[List.length_set];exact N.vl,fun y hy=>?_,fun j hj hb=>?_⟩,?_⟩
 ·rw[yQ hw,yR hv];rcases(hL y).1 hy with hy|rfl
  ·rw[if_neg (hno y hy),if_neg (hno y hy)];exact N.to y hy
  ·rw[if_pos rfl,if_pos rfl];exact⟨rfl,rfl⟩
 ·rw[yQ hw] at hb;rw[yR hv,hL];by_cases e:j=i
  ·subst e;rw[if_pos rfl];exact .inr rfl
  ·rw[if_neg e] at hb⊢;exact .inl (N.of j hj hb)
 ·exact ze hr.pl.nd N.ra.pl.nd (fun h=>hno _ h rfl) hL
theorem Nt.low{h h1 h2:Heap}{k p t u:Nat}{S S':List Nat}{L L':List Id}{P P':Nat→Nat}{W:List Bool}{V:List Int}(N:Nt h k p S L P t u W V){y:Id}(hy:y∈L){key:Int}(hr:mG h1 k p S' L' P')(hL:∀z,z∈L'↔(z∈L∧z.1≠y.1)∨z=(y.1,key))(o:Own h h1 S S')
  (e:h2=h1.set u (.cells (ints (V.set y.1 key)) true 0)):Nt h2 k p S' L' P' t u W (V.set y.1 key)∧L'.length=L.length:=by
 subst e;have hi:=N.small hy;have B:=N.nb o;have B2:=B.Rp N.tu (V.set y.1 key);have hv:y.1<V.length:=by rw[N.vl];exact hi
 refine⟨⟨hr.set B.uS _,B2.gt,B2.gu,B2.lt,B2.lu,B2.tS,B2.uS,N.tu,N.wl,by rw[List.length_set];exact N.vl,fun z hz=>?_,fun j hj hb=>?_⟩,?_⟩
 ·rw[yR hv];rcases(hL z).1 hz with hz|rfl
  ·rw[if_neg hz.2];exact N.to z hz.1
  ·rw[if_pos rfl];exact⟨(N.to y hy).1,rfl⟩
 ·rw[yR hv,hL];by_cases e:j=y.1
  ·subst e;rw[if_pos rfl];exact .inr rfl
  ·rw[if_neg e];exact .inl ⟨N.of j hj hb,e⟩
 ·have hu:∀z∈L,z.1=y.1→z=y:=fun z hz e=>N.ra.pl.uniq hz hy e;have wB:=N.ra.pl.nd;have h1:(L.filter fun z=>decide (z.1≠y.1)).length+1=L.length:=zf (wB.sublist List.filter_sublist) wB hy hu fun z=>by simp[List.mem_filter]
  have h2:L'.length=(L.filter fun z=>decide (z.1≠y.1)).length+1:=ze hr.pl.nd (wB.sublist List.filter_sublist) (x:=(y.1,key)) (fun h=>by simp[List.mem_filter] at h) fun z=>by rw[hL];simp[List.mem_filter]
  omega
theorem Nt.del{h h1 h2:Heap}{k p t u:Nat}{S S':List Nat}{L L':List Id}{P P':Nat→Nat}{W:List Bool}{V:List Int}(N:Nt h k p S L P t u W V){y:Id}(hy:y∈L)(hr:mG h1 k p S' L' P')(hL:∀z,z∈L'↔z∈L∧z.1≠y.1)(o:Own h h1 S S')
  (e:h2=h1.set t (.cells (bol (W.set y.1 false)) true 0)):Nt h2 k p S' L' P' t u (W.set y.1 false) V∧L'.length+1=L.length:=by
 subst e;have hi:=N.small hy;have B:=N.nb o;have B2:=B.NG N.tu (W.set y.1 false);have hw:y.1<W.length:=by rw[N.wl];exact hi
 refine⟨⟨hr.set B.tS _,B2.gt,B2.gu,B2.lt,B2.lu,B2.tS,B2.uS,N.tu,by rw[List.length_set];exact N.wl,N.vl,fun z hz=>?_,fun j hj hb=>?_⟩,?_⟩
 ·have hz:=(hL z).1 hz;rw[yQ hw,if_neg hz.2];exact N.to z hz.1
 ·rw[yQ hw] at hb;rw[hL];by_cases e:j=y.1
  ·subst e;rw[if_pos rfl] at hb;cases hb
  ·rw[if_neg e] at hb;exact⟨N.of j hj hb,e⟩
 ·exact zf hr.pl.nd N.ra.pl.nd hy (fun z hz e=>N.ra.pl.uniq hz hy e) hL
def Ve(z:Nat)(l:List zX)(k t u n i:Nat):List (Nat×AV):=[(0,.fz z (p9 l)),(3,.ptr k 0),(4,.ptr t 0),(5,.ptr u 0),(6,.int .i64 ((n:Nat):Int)),(7,.int .i64 ((i:Nat):Int))]
theorem Rm{z:Nat}{l:List zX}{k p t u:Nat}{B:Nat}{Q:AX→Env→Heap→Prop}(hl:l.length<2^62)
  (hQ:∀e' h' S' L' P' W' V',Tr.get e' 3=some (.ptr k 0)→Tr.get e' 4=some (.ptr t 0)→Tr.get e' 5=some (.ptr u 0)→Tr.get e' 6=some (.int .i64 ((L'.length:Nat):Int))→Nt h' k p S' L' P' t u W' V'→Q (.exit 0) e' h'):
  ∀(n i:Nat) (h:Heap) (S:List Nat) (L:List Id) (P:Nat→Nat) (W:List Bool) (V:List Int) (env:Env),l.length-i=n→i≤l.length→Nt h k p S L P t u W V→aW env (Ve z l k t u L.length i)→
  VC fs ms B false (.loop fJ) env h Q:=by
 intro n;induction n using Nat.strongRecOn with
 |ind n ih=>
 intro i h S L P W V env hn hi N bM;refine an 4 (Ve z l k t u L.length i) bM ?_;refine cK (aa true ?_);unfold Ve;generalize hJ:((i:Nat):Int)=J;conv=>whnf
 rw[qc];refine br (fun hc=>?_) (fun hc=>?_)<;>(try rw[hc])<;>(conv=>whnf)
 ·have hlt:i<l.length:=by have:=of_decide_eq_true hc;omega
  refine br (fun hc=>?_) (fun hc=>?_)<;>(try rw[hc])<;>(conv=>whnf)
  ·subst hJ;refine aq (z:=true) ?_;generalize hx:l[i]=x;obtain⟨kd,id,key⟩:=x;have xM:pV (.ak 3) [.fz z (p9 l),.int .i64 ((i:Nat):Int)]=some (.fp [.int .i64 kd,.int .i64 id,.int .i64 key] 0):=by
    rw[DO hlt,hx];rfl
   have xK:=N.ra.pl.mj;conv=>whnf
   refine⟨_,xM,?_⟩;conv=>whnf
   refine⟨_,rfl,?_⟩;conv=>whnf
   refine aZ (gP id 64 (by omega) (by omega)) ?_;conv=>whnf
   refine⟨_,xM,?_⟩;conv=>whnf
   refine⟨_,rfl,?_⟩;conv=>whnf
   refine aZ (gP kd 3 (by omega) (by omega)) ?_;conv=>whnf
   have V4:0≤eR id 64:=Int.emod_nonneg _ (by omega);have V5:eR id 64<64:=Int.emod_lt_of_pos _ (by omega);generalize hT:eR id 64=T at*;generalize eR kd 3=k' at*;obtain⟨t',rfl⟩:∃t':Nat,T=t':=⟨T.toNat,by omega⟩;have ht:t'<64:=by omega
   refine br (fun hc=>?_) (fun hc=>?_)<;>(try rw[hc])<;>(conv=>whnf)
   ·
    refine⟨_,xM,?_⟩;conv=>whnf
    refine⟨_,rfl,?_⟩;conv=>whnf
    refine uc N.ra _ key (fun hb=>by omega) (fun y hy e=>?_) fun j hj _ hno h1 S1 L1 P1 r1 r2 r3=>?_
    ·have DL:t'=y.1:=by omega
     have hw:gB W t'=true:=by rw[DL];exact(N.to y hy).1
     conv=>whnf
     refine⟨_,bu (o:=0) ht,?_⟩;conv=>whnf
     refine⟨_,N.wC ht hw,?_⟩;conv=>whnf
     refine⟨_,bu (o:=0) ht,?_⟩;conv=>whnf
     refine⟨_,N.wC ht hw,?_⟩;conv=>whnf
     exact ih (l.length-(i+1)) (by omega) (i+1) h S L P W V _ rfl (by omega) N ⟨rfl,rfl,rfl,rfl,rfl,aS (by omega),trivial⟩
    ·have hjt:t'=j:=by omega
     subst hjt;have hw:=N.no ht hno;have B:=N.nb r3;conv=>whnf
     refine⟨_,bu (o:=0) ht,?_⟩;conv=>whnf
     refine⟨_,B.wC N.wl ht hw,?_⟩;conv=>whnf
     refine⟨_,bu (o:=0) ht,?_⟩;conv=>whnf
     refine⟨_,B.wC N.wl ht hw,?_⟩;conv=>whnf
     refine⟨_,bu (o:=0) ht,?_⟩;conv=>whnf
     refine bA (B.S8 N.wl ht true) fun h2 e2=>?_;conv=>whnf
     refine⟨_,xM,?_⟩;conv=>whnf
     refine⟨_,rfl,?_⟩;conv=>whnf
     refine⟨_,bu (o:=0) ht,?_⟩;conv=>whnf
     have B2:Nb h2 t u S1 (W.set t' true) V:=by rw[e2];exact B.NG N.tu _
     refine bA (B2.Vl N.vl ht key) fun h3 e3=>?_;conv=>whnf
     obtain⟨N3,hlen⟩:=N.put ht hno r1 r2 r3 (show h3=_ by rw[e3,e2]);refine ih (l.length-(i+1)) (by omega) (i+1) h3 S1 L1 P1 _ _ _ rfl (by omega) N3 ⟨rfl,rfl,rfl,rfl,?_,aS (by omega),trivial⟩;rw[hlen];exact aS (by omega)
   ·refine br (fun hc=>?_) (fun hc=>?_)<;>(try rw[hc])<;>(conv=>whnf)
    ·
     refine⟨_,xM,?_⟩;conv=>whnf
     refine⟨_,rfl,?_⟩;conv=>whnf
     refine pQ N.ra _ key (fun hb=>by omega) (fun _ hno=>?_) (fun y e hy rY=>?_) fun y e hy hle h1 S1 L1 P1 r1 r2 r3=>?_
     ·have hw:gB W t'=false:=N.no ht fun y hy e=>hno y hy (by rw[e]);conv=>whnf
      refine⟨_,bu (o:=0) ht,?_⟩;conv=>whnf
      refine⟨_,N.wC ht hw,?_⟩;conv=>whnf
      exact ih (l.length-(i+1)) (by omega) (i+1) h S L P W V _ rfl (by omega) N ⟨rfl,rfl,rfl,rfl,rfl,aS (by omega),trivial⟩
     ·have DL:t'=y.1:=by omega
      have hw:gB W t'=true:=by rw[DL];exact(N.to y hy).1
      have hv:gN V t'=y.2:=by rw[DL];exact(N.to y hy).2
      conv=>whnf
      refine⟨_,bu (o:=0) ht,?_⟩;conv=>whnf
      refine⟨_,N.wC ht hw,?_⟩;conv=>whnf
      refine⟨_,xM,?_⟩;conv=>whnf
      refine⟨_,rfl,?_⟩;conv=>whnf
      refine⟨_,bu (o:=0) ht,?_⟩;conv=>whnf
      refine⟨_,N.S0 ht,?_⟩;rw[hv];conv=>whnf
      rw[show decide (key≤y.2)=false from decide_eq_false (by omega)];conv=>whnf
      exact ih (l.length-(i+1)) (by omega) (i+1) h S L P W V _ rfl (by omega) N ⟨rfl,rfl,rfl,rfl,rfl,aS (by omega),trivial⟩
     ·have DL:t'=y.1:=by omega
      subst DL;have hw:=(N.to y hy).1;have hv:=(N.to y hy).2;have B:=N.nb r3;conv=>whnf
      refine⟨_,bu (o:=0) ht,?_⟩;conv=>whnf
      refine⟨_,B.wC N.wl ht hw,?_⟩;conv=>whnf
      refine⟨_,xM,?_⟩;conv=>whnf
      refine⟨_,rfl,?_⟩;conv=>whnf
      refine⟨_,bu (o:=0) ht,?_⟩;conv=>whnf
      refine⟨_,B.S0 N.vl ht,?_⟩;rw[hv];conv=>whnf
      rw[show decide (key≤y.2)=true from decide_eq_true (by omega)];conv=>whnf
      refine⟨_,xM,?_⟩;conv=>whnf
      refine⟨_,rfl,?_⟩;conv=>whnf
      refine⟨_,bu (o:=0) ht,?_⟩;conv=>whnf
      refine bA (B.Vl N.vl ht key) fun h3 e3=>?_;conv=>whnf
      obtain⟨N3,hlen⟩:=N.low hy r1 r2 r3 e3;refine ih (l.length-(i+1)) (by omega) (i+1) h3 S1 L1 P1 _ _ _ rfl (by omega) N3 ⟨rfl,rfl,rfl,rfl,by rw[hlen];rfl,aS (by omega),trivial⟩
    ·
     refine oT N.ra _ (fun hno=>?_) fun y e hy h1 S1 L1 P1 r1 r2 r3=>?_
     ·have hw:gB W t'=false:=N.no ht fun y hy e=>hno y hy (by rw[e]);conv=>whnf
      refine⟨_,bu (o:=0) ht,?_⟩;conv=>whnf
      refine⟨_,N.wC ht hw,?_⟩;conv=>whnf
      refine⟨eA (by(conv=>whnf);repeat' (first|exact trivial|(exact N.wC ht hw)|(exact⟨rfl,rfl,.inr ⟨_,_,rfl⟩⟩)|(refine⟨rfl,rfl,.inl ⟨rfl,fun o ho=>?_⟩⟩;cases ho;first|rfl|(exact N.wC ht hw))|(exact⟨rfl,.inr ⟨_,_,rfl⟩⟩)|(refine⟨rfl,.inl ⟨rfl,fun i o hi ho=>?_⟩⟩;cases hi;cases ho;first|rfl|(exact N.wC ht hw))|(refine And.intro (fun dY=>(Bool.false_ne_true dY).elim) ?_<;>conv=>whnf)|(refine And.intro (fun _=>?_) ?_<;>conv=>whnf)|(refine And.intro ?_ ?_<;>conv=>whnf))),?_⟩;conv=>whnf
      refine⟨_,bu (o:=0) ht,?_⟩;conv=>whnf
      refine⟨_,N.wC ht hw,?_⟩;conv=>whnf
      exact ih (l.length-(i+1)) (by omega) (i+1) h S L P W V _ rfl (by omega) N ⟨rfl,rfl,rfl,rfl,rfl,aS (by omega),trivial⟩
     ·have DL:t'=y.1:=by omega
      subst DL;have hw:=(N.to y hy).1;have B:=N.nb r3;conv=>whnf
      refine⟨_,bu (o:=0) ht,?_⟩;conv=>whnf
      refine⟨_,B.wC N.wl ht hw,?_⟩;conv=>whnf
      refine⟨eA (by(conv=>whnf);repeat' (first|exact trivial|(exact N.wC ht hw)|(exact B.wC N.wl ht hw)|(exact⟨rfl,rfl,.inr ⟨_,_,rfl⟩⟩)|(refine⟨rfl,rfl,.inl ⟨rfl,fun o ho=>?_⟩⟩;cases ho;first|rfl|(exact N.wC ht hw)|(exact B.wC N.wl ht hw))|(exact⟨rfl,.inr ⟨_,_,rfl⟩⟩)|(refine⟨rfl,.inl ⟨rfl,fun i o hi ho=>?_⟩⟩;cases hi;cases ho;first|rfl|(exact N.wC ht hw)|(exact B.wC N.wl ht hw))|(refine And.intro (fun dY=>(Bool.false_ne_true dY).elim) ?_<;>conv=>whnf)|(refine And.intro (fun _=>?_) ?_<;>conv=>whnf)|(refine And.intro ?_ ?_<;>conv=>whnf))),?_⟩;conv=>whnf
      refine⟨_,bu (o:=0) ht,?_⟩;conv=>whnf
      refine⟨_,B.wC N.wl ht hw,?_⟩;conv=>whnf
      refine⟨_,bu (o:=0) ht,?_⟩;conv=>whnf
      refine bA (B.S8 N.wl ht false) fun h3 e3=>?_;conv=>whnf
      obtain⟨N3,hlen⟩:=N.del hy r1 r2 r3 e3;refine ih (l.length-(i+1)) (by omega) (i+1) h3 S1 L1 P1 _ _ _ rfl (by omega) N3 ⟨rfl,rfl,rfl,rfl,?_,aS (by omega),trivial⟩;rw[show L1.length=L.length-1 by omega];exact congrArg (fun x=>some (AV.int .i64 x)) (show IntKind.i64.wrap (((L.length:Nat):Int)-1)=((L.length-1:Nat):Int) by rw[show((L.length:Nat):Int)-1=((L.length-1:Nat):Int) by omega,iw (by omega)])
  ·subst hJ;exact hQ _ h S L P W V rfl rfl rfl rfl N
 ·subst hJ;exact hQ _ h S L P W V rfl rfl rfl rfl N
end Ir
end Go.Proofs.Ytenafeojcgmnhaa
