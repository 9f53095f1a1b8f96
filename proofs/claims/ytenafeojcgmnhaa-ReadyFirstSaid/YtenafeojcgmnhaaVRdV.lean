/-
  Ready: the first one, and those that are late.
-/
import Derived.Test.YtenafeojcgmnhaaVRdS
set_option maxRecDepth 100000
set_option linter.unusedSimpArgs false
set_option linter.unusedVariables false
namespace Go.Proofs.Ytenafeojcgmnhaa
open Go Ads
namespace Ir
structure FH(L:List Id)(V:List Int):Prop where
 len:V.length=4
 to:∀y∈L,y.1<4∧gD V y.1=y.2+1∧0≤y.2
 of:∀t,t<4→0<gD V t→(t,gD V t-1)∈L
 nn:∀t,t<4→0≤gD V t∧gD V t≤200
structure FE(h:Heap)(q:Nat)(S:List Nat)(L:List Id)(u:Nat)(V:List Int):Prop where
 qa:sU h q S 4 L
 gu:h.get u=some (.cells (ints V) true 0)
 lu:u<h.next
 uS:u∉S
 nt:FH L V
theorem FE.get{h:Heap}{q u:Nat}{S:List Nat}{L:List Id}{V:List Int}(F:FE h q S L u V){t:Nat}(ht:t<4):(ints V)[0+t*1]?=some (.int .i64 (gD V t)):=by
 rw[Nat.zero_add,Nat.mul_one];exact vp (by rw[F.nt.len];exact ht)
theorem FE.put{h:Heap}{q u:Nat}{S:List Nat}{L:List Id}{V:List Int}(F:FE h q S L u V){t:Nat}(ht:t<4)(x:Int):eV (.store 1) [.ptr u (0+t*1),.int .i64 x] h=some (.undef,h.set u (.cells (ints (V.set t x)) true 0)):=by
 have hl:t<V.length:=by rw[F.nt.len];exact ht
 rw[←ints_set hl,Nat.zero_add];exact fQ (n:=1) (v:=.int .i64 x) F.gu rfl (by rw[ck,Nat.mul_one];exact hl) rfl
theorem FH.del{L L':List Id}{V:List Int}(N:FH L V){t:Nat}(ht:t<4)(hL:∀z,z∈L'↔z∈L∧z.1≠t):FH L' (V.set t 0):=by
 have hl:t<V.length:=by rw[N.len];exact ht
 refine⟨by rw[List.length_set];exact N.len,fun y hy=>?_,fun s hs h0=>?_,fun s hs=>?_⟩
 ·have:=(hL y).1 hy;rw[mA hl,if_neg this.2];exact N.to y this.1
 ·rw[mA hl] at h0⊢;by_cases e:s=t
  ·subst e;rw[if_pos rfl] at h0;omega
  ·rw[if_neg e] at h0⊢;exact(hL _).2 ⟨N.of s hs h0,e⟩
 ·rw[mA hl];split
  ·omega
  ·exact N.nn s hs
theorem FH.add{L L':List Id}{V:List Int}(N:FH L V){t:Nat}(ht:t<4){d:Int}(h0:0≤d)(h2:d<200)(h1:gD V t=0)(hL:∀z,z∈L'↔z∈L∨z=(t,d)):FH L' (V.set t (d+1)):=by
 have hl:t<V.length:=by rw[N.len];exact ht
 refine⟨by rw[List.length_set];exact N.len,fun y hy=>?_,fun s hs hp=>?_,fun s hs=>?_⟩
 ·rw[mA hl];rcases(hL y).1 hy with hy|rfl
  ·have:=N.to y hy;rw[if_neg (by intro e;rw[e] at this;omega)];exact this
  ·rw[if_pos rfl];exact⟨ht,rfl,h0⟩
 ·rw[mA hl] at hp⊢;rw[hL];by_cases e:s=t
  ·subst e;rw[if_pos rfl];right;rw[show d+1-1=d by omega]
  ·rw[if_neg e] at hp⊢;exact .inl (N.of s hs hp)
 ·rw[mA hl];split
  ·omega
  ·exact N.nn s hs
theorem FH.same{L L':List Id}{V:List Int}(N:FH L V)(hL:∀z,z∈L'↔z∈L):FH L' V:=⟨N.len,fun y hy=>N.to y ((hL y).1 hy),fun t ht h=>(hL _).2 (N.of t ht h),N.nn⟩
def Tw(k:Nat)(l:List xj)(now:Int)(q u i:Nat):List (Nat×AV):=[(0,.fz k (rK l)),(1,.int .i64 now),(5,.ptr q 0),(7,.ptr u 0),(8,.int .i64 ((i:Nat):Int))]
theorem Mb{k:Nat}{l:List xj}{now:Int}{q u:Nat}{B:Nat}{Q:AX→Env→Heap→Prop}(hl:l.length<2^62)
  (hQ:∀e' h' S' L' V',Tr.get e' 1=some (.int .i64 now)→Tr.get e' 5=some (.ptr q 0)→Tr.get e' 7=some (.ptr u 0)→FE h' q S' L' u V'→Q (.exit 0) e' h'):
  ∀(n i:Nat) (h:Heap) (S:List Nat) (L:List Id) (V:List Int) (env:Env),l.length-i=n→i≤l.length→FE h q S L u V→aW env (Tw k l now q u i)→
  VC fs ms B false (.loop eX) env h Q:=by
 intro n;induction n using Nat.strongRecOn with
 |ind n ih=>
 intro i h S L V env hn hi F bM;refine an 4 (Tw k l now q u i) bM ?_;refine cK (aa true ?_);unfold Tw;generalize hJ:((i:Nat):Int)=J;conv=>whnf
 rw[rL];refine br (fun hc=>?_) (fun hc=>?_)<;>(try rw[hc])<;>(conv=>whnf)
 ·have hlt:i<l.length:=by have:=of_decide_eq_true hc;omega
  refine br (fun hc=>?_) (fun hc=>?_)<;>(try rw[hc])<;>(conv=>whnf)
  ·subst hJ;refine aq (z:=true) ?_;generalize hx:l[i]=x;obtain⟨kd,t,d⟩:=x;have xM:pV (.ak 3) [.fz k (rK l),.int .i64 ((i:Nat):Int)]=some (.fp [.int .i64 kd,.int .i64 t,.int .i64 d] 0):=by
    rw[DN hlt,hx];rfl
   conv=>whnf
   refine⟨_,xM,?_⟩;conv=>whnf
   refine⟨_,rfl,?_⟩;conv=>whnf
   refine aZ (gP t 4 (by omega) (by omega)) ?_;conv=>whnf
   refine⟨_,xM,?_⟩;conv=>whnf
   refine⟨_,rfl,?_⟩;conv=>whnf
   refine aZ (gP d 200 (by omega) (by omega)) ?_;conv=>whnf
   refine⟨eA (by(conv=>whnf);repeat' (first|exact trivial|(exact⟨rfl,rfl,.inr ⟨_,_,rfl⟩⟩)|(refine⟨rfl,rfl,.inl ⟨rfl,fun o ho=>?_⟩⟩;cases ho;first|rfl)|(exact⟨rfl,.inr ⟨_,_,rfl⟩⟩)|(refine⟨rfl,.inl ⟨rfl,fun i o hi ho=>?_⟩⟩;cases hi;cases ho;first|rfl)|(refine And.intro (fun dY=>(Bool.false_ne_true dY).elim) ?_<;>conv=>whnf)|(refine And.intro (fun _=>?_) ?_<;>conv=>whnf)|(refine And.intro ?_ ?_<;>conv=>whnf))),?_⟩;conv=>whnf
   refine⟨_,xM,?_⟩;conv=>whnf
   refine⟨_,rfl,?_⟩;conv=>whnf
   refine aZ (gP kd 3 (by omega) (by omega)) ?_;conv=>whnf
   have V4:0≤eR t 4:=Int.emod_nonneg _ (by omega);have V5:eR t 4<4:=Int.emod_lt_of_pos _ (by omega);have GI:0≤eR d 200:=Int.emod_nonneg _ (by omega);have JC:eR d 200<200:=Int.emod_lt_of_pos _ (by omega);generalize hT:eR t 4=T at*;generalize eR d 200=d' at*;generalize eR kd 3=k' at*;obtain⟨t',rfl⟩:∃t':Nat,T=t':=⟨T.toNat,by omega⟩;have ht:t'<4:=by omega
   clear V4 V5;have SM:=F.nt.nn t' ht;refine br (fun hc=>?_) (fun hc=>?_)<;>(try rw[hc])<;>(conv=>whnf)
   ·
    refine p8 F.qa _ (fun hno=>?_) fun y e hy h1 S1 L1 q1 q2 q3=>?_
    ·conv=>whnf
     have h0:gD V t'=0:=by
      by_cases h:0<gD V t'
      ·exact absurd rfl (hno _ (F.nt.of t' ht h))
      ·omega
     refine⟨_,bu (o:=0) ht,?_⟩;conv=>whnf
     refine⟨_,bQ F.gu (F.get ht),?_⟩;conv=>whnf
     refine⟨eA (by(conv=>whnf);repeat' (first|exact trivial|(exact bQ F.gu (F.get ht))|(exact⟨rfl,rfl,.inr ⟨_,_,rfl⟩⟩)|(refine⟨rfl,rfl,.inl ⟨rfl,fun o ho=>?_⟩⟩;cases ho;first|rfl|(exact bQ F.gu (F.get ht)))|(exact⟨rfl,.inr ⟨_,_,rfl⟩⟩)|(refine⟨rfl,.inl ⟨rfl,fun i o hi ho=>?_⟩⟩;cases hi;cases ho;first|rfl|(exact bQ F.gu (F.get ht)))|(refine And.intro (fun dY=>(Bool.false_ne_true dY).elim) ?_<;>conv=>whnf)|(refine And.intro (fun _=>?_) ?_<;>conv=>whnf)|(refine And.intro ?_ ?_<;>conv=>whnf))),?_⟩;conv=>whnf
     refine od (by rw[h0];rfl) (fun hc=>?_)
     (try rw[hc])
     conv=>whnf
     refine⟨_,bu (o:=0) ht,?_⟩;conv=>whnf
     refine bA (F.put ht 0) fun h2 e2=>?_;conv=>whnf
     refine ih (l.length-(i+1)) (by omega) (i+1) h2 S L (V.set t' 0) _ rfl (by omega) ⟨F.qa.keep (T:=[u]) (by rw[e2];exact(Fr.refl h [u]).set (by simp)) (fun b hb hm=>F.uS (by simp at hm;rwa [←hm])),by rw[e2,aV],by rw[e2];exact F.lu,F.uS,F.nt.del ht fun z=>⟨fun hz=>⟨hz,fun e=>hno z hz (by rw[e])⟩,fun hz=>hz.1⟩⟩ ⟨rfl,rfl,rfl,rfl,aS (by omega),trivial⟩
    ·conv=>whnf
     have DL:t'=y.1:=by omega
     subst DL;have hp:0<gD V y.1:=by have:=F.nt.to y hy;omega
     have Fv:h1.get u=some (.cells (ints V) true 0):=by rw[q3.fr.keep u F.lu F.uS];exact F.gu
     refine⟨_,bu (o:=0) ht,?_⟩;conv=>whnf
     refine⟨_,bQ Fv (F.get ht),?_⟩;conv=>whnf
     refine⟨eA (by(conv=>whnf);repeat' (first|exact trivial|(exact bQ F.gu (F.get ht))|(exact bQ Fv (F.get ht))|(exact⟨rfl,rfl,.inr ⟨_,_,rfl⟩⟩)|(refine⟨rfl,rfl,.inl ⟨rfl,fun o ho=>?_⟩⟩;cases ho;first|rfl|(exact bQ F.gu (F.get ht))|(exact bQ Fv (F.get ht)))|(exact⟨rfl,.inr ⟨_,_,rfl⟩⟩)|(refine⟨rfl,.inl ⟨rfl,fun i o hi ho=>?_⟩⟩;cases hi;cases ho;first|rfl|(exact bQ F.gu (F.get ht))|(exact bQ Fv (F.get ht)))|(refine And.intro (fun dY=>(Bool.false_ne_true dY).elim) ?_<;>conv=>whnf)|(refine And.intro (fun _=>?_) ?_<;>conv=>whnf)|(refine And.intro ?_ ?_<;>conv=>whnf))),?_⟩;conv=>whnf
     refine od (by rw[decide_eq_true hp];rfl) (fun hc=>?_)
     (try rw[hc])
     conv=>whnf
     have F1:FE h1 q S1 L u V→True:=fun _=>trivial;refine⟨_,bu (o:=0) ht,?_⟩;conv=>whnf
     have Og:y.1<V.length:=by rw[F.nt.len];exact ht
     refine bA (h':=h1.set u (.cells (ints (V.set y.1 0)) true 0)) (v:=.undef) (by rw[←ints_set Og,Nat.zero_add];exact fQ (n:=1) (v:=.int .i64 0) Fv rfl (by rw[ck,Nat.mul_one];exact Og) rfl) fun h2 e2=>?_;conv=>whnf
     have Ru:=q3.off F.lu F.uS;refine ih (l.length-(i+1)) (by omega) (i+1) h2 S1 L1 (V.set y.1 0) _ rfl (by omega) ⟨q1.keep (T:=[u]) (by rw[e2];exact(Fr.refl h1 [u]).set (by simp)) (fun b hb hm=>Ru (by simp at hm;rwa [←hm])),by rw[e2,aV],by rw[e2];exact Nat.lt_of_lt_of_le F.lu q3.fr.next,Ru,F.nt.del ht q2⟩ ⟨rfl,rfl,rfl,rfl,aS (by omega),trivial⟩
   ·
    refine oP F.qa _ _ (fun hb=>by omega) (fun _ hb=>by omega) (fun _ _ y hy e=>?_) fun _ j hj _ hno h1 S1 L1 q1 q2 q3=>?_
    ·conv=>whnf
     have DL:t'=y.1:=by omega
     have hp:0<gD V t':=by rw[DL];have:=F.nt.to y hy;omega
     refine⟨_,bu (o:=0) ht,?_⟩;conv=>whnf
     refine⟨_,bQ F.gu (F.get ht),?_⟩;conv=>whnf
     refine⟨eA (by(conv=>whnf);repeat' (first|exact trivial|(exact bQ F.gu (F.get ht))|(exact⟨rfl,rfl,.inr ⟨_,_,rfl⟩⟩)|(refine⟨rfl,rfl,.inl ⟨rfl,fun o ho=>?_⟩⟩;cases ho;first|rfl|(exact bQ F.gu (F.get ht)))|(exact⟨rfl,.inr ⟨_,_,rfl⟩⟩)|(refine⟨rfl,.inl ⟨rfl,fun i o hi ho=>?_⟩⟩;cases hi;cases ho;first|rfl|(exact bQ F.gu (F.get ht)))|(refine And.intro (fun dY=>(Bool.false_ne_true dY).elim) ?_<;>conv=>whnf)|(refine And.intro (fun _=>?_) ?_<;>conv=>whnf)|(refine And.intro ?_ ?_<;>conv=>whnf))),?_⟩;conv=>whnf
     have hz:(gD V t'==(0:Int))=false:=by simp;omega
     refine od (by rw[hz];rfl) (fun hc=>?_)
     (try rw[hc])
     conv=>whnf
     refine⟨_,bu (o:=0) ht,?_⟩;conv=>whnf
     refine⟨_,bQ F.gu (F.get ht),?_⟩;conv=>whnf
     refine od (hz) (fun hc=>?_)
     (try rw[hc])
     conv=>whnf
     exact ih (l.length-(i+1)) (by omega) (i+1) h S L V _ rfl (by omega) F ⟨rfl,rfl,rfl,rfl,aS (by omega),trivial⟩
    ·conv=>whnf
     have DL:t'=j:=by omega
     subst DL;have h0:gD V t'=0:=by
      by_cases h:0<gD V t'
      ·exact absurd rfl (hno _ (F.nt.of t' ht h))
      ·omega
     have Fv:h1.get u=some (.cells (ints V) true 0):=by rw[q3.fr.keep u F.lu F.uS];exact F.gu
     have Ru:=q3.off F.lu F.uS;have hz:(gD V t'==(0:Int))=true:=by simp[h0]
     refine⟨_,bu (o:=0) ht,?_⟩;conv=>whnf
     refine⟨_,bQ Fv (F.get ht),?_⟩;conv=>whnf
     refine⟨eA (by(conv=>whnf);repeat' (first|exact trivial|(exact bQ F.gu (F.get ht))|(exact bQ Fv (F.get ht))|(exact⟨rfl,rfl,.inr ⟨_,_,rfl⟩⟩)|(refine⟨rfl,rfl,.inl ⟨rfl,fun o ho=>?_⟩⟩;cases ho;first|rfl|(exact bQ F.gu (F.get ht))|(exact bQ Fv (F.get ht)))|(exact⟨rfl,.inr ⟨_,_,rfl⟩⟩)|(refine⟨rfl,.inl ⟨rfl,fun i o hi ho=>?_⟩⟩;cases hi;cases ho;first|rfl|(exact bQ F.gu (F.get ht))|(exact bQ Fv (F.get ht)))|(refine And.intro (fun dY=>(Bool.false_ne_true dY).elim) ?_<;>conv=>whnf)|(refine And.intro (fun _=>?_) ?_<;>conv=>whnf)|(refine And.intro ?_ ?_<;>conv=>whnf))),?_⟩;conv=>whnf
     refine od (by rw[hz];rfl) (fun hc=>?_)
     (try rw[hc])
     conv=>whnf
     refine⟨_,bu (o:=0) ht,?_⟩;conv=>whnf
     refine⟨_,bQ Fv (F.get ht),?_⟩;conv=>whnf
     refine IK (hz) (fun hc=>?_)
     (try rw[hc])
     conv=>whnf
     refine⟨_,bu (o:=0) ht,?_⟩;conv=>whnf
     rw[IntWalk.i64_in (d'+1) (by omega)];have Og:t'<V.length:=by rw[F.nt.len];exact ht
     refine bA (h':=h1.set u (.cells (ints (V.set t' (d'+1))) true 0)) (v:=.undef) (by rw[←ints_set Og,Nat.zero_add];exact fQ (n:=1) (v:=.int .i64 (d'+1)) Fv rfl (by rw[ck,Nat.mul_one];exact Og) rfl) fun h2 e2=>?_;conv=>whnf
     refine ih (l.length-(i+1)) (by omega) (i+1) h2 S1 L1 (V.set t' (d'+1)) _ rfl (by omega) ⟨q1.keep (T:=[u]) (by rw[e2];exact(Fr.refl h1 [u]).set (by simp)) (fun b hb hm=>Ru (by simp at hm;rwa [←hm])),by rw[e2,aV],by rw[e2];exact Nat.lt_of_lt_of_le F.lu q3.fr.next,Ru,F.nt.add ht GI JC h0 q2⟩ ⟨rfl,rfl,rfl,rfl,aS (by omega),trivial⟩
  ·subst hJ;exact hQ _ h S L V rfl rfl rfl F
 ·subst hJ;exact hQ _ h S L V rfl rfl rfl F
def m7(V:List Int)(i:Nat):Bool:=(List.range i).any fun j=>decide (0<gD V j)
theorem C0(V:List Int)(i:Nat):m7 V (i+1)=(m7 V i||decide (0<gD V i)):=by
 simp[m7,List.range_succ,List.any_append]
theorem yc{L:List Id}{V:List Int}(N:FH L V):m7 V 4=true↔L≠[]:=by
 simp only[m7,List.any_eq_true,List.mem_range,decide_eq_true_eq];constructor
 ·rintro⟨j,h1,h2⟩ rfl;have:=N.of j h1 h2;simp at this
 ·intro h;obtain⟨y,hy⟩:=List.exists_mem_of_ne_nil L h;have:=N.to y hy;exact⟨y.1,this.1,by omega⟩
theorem DR{n:Int}:∀{M:List Id},M.Pairwise (fun x y=>ah x y=true)→uD M n=M.take (uD M n).length∧∀i,i<M.length→((gI M i).2≤n↔i<(uD M n).length)
 |[],_=>⟨rfl,fun i hi=>by simp at hi⟩
 |x::M,h=>by
  rw[List.pairwise_cons] at h;have ih:=DR (n:=n) h.2;have uv:uD (x::M) n=if x.2≤n then x::uD M n else uD M n:=by
   unfold uD;rw[List.filter_cons];by_cases hx:x.2≤n<;>simp[hx]
  by_cases hx:x.2≤n
  ·rw[uv,if_pos hx];refine⟨by rw[List.length_cons,List.take_succ_cons,←ih.1],fun i hi=>?_⟩;cases i with
   |zero=>exact⟨fun _=>Nat.succ_pos _,fun _=>hx⟩
   |succ i=>
    have:=ih.2 i (by simpa using hi);rw[show gI (x::M) (i+1)=gI M i by simp[gI],this,List.length_cons];omega
  ·rw[uv,if_neg hx];have hall:∀y∈M,¬y.2≤n:=by
    intro y hy;have:=gH.1 (h.1 y hy);omega
   have he:uD M n=[]:=by
    unfold uD;rw[List.filter_eq_nil_iff];intro y hy;have:=hall y hy;simpa using this
   rw[he];refine⟨rfl,fun i hi=>⟨fun h=>?_,fun h=>by simp at h⟩⟩;cases i with
   |zero=>exact absurd h hx
   |succ i=>
    rw[show gI (x::M) (i+1)=gI M i by simp[gI]] at h;exact absurd h (hall _ (bZ.2 ⟨i,by simpa using hi,rfl⟩))
def Jr(now:Int)(q u:Nat)(x y:Int)(c:Bool)(s:Bool)(i:Nat):List (Nat×AV):=[(1,.int .i64 now),(5,.ptr q 0),(7,.ptr u 0),(11,.int .i64 x),(12,.int .i64 y),(13,.bool c),(14,.bool s),(15,.int .i64 ((i:Nat):Int))]
theorem Mc{now:Int}{q u:Nat}{h:Heap}{S:List Nat}{L:List Id}{V:List Int}(F:FE h q S L u V){x y:Int}{c:Bool}(hF:c=true→∀t:Nat,t<4→0<gD V t→¬(gD V t-1<y)∧¬(gD V t-1=y∧((t:Nat):Int)<x)){B:Nat}{Q:AX→Env→Heap→Prop}
  (hQ:∀e',aW e' (Jr now q u x y c (m7 V 4) 4)→Q (.exit 2) e' h):
  ∀(n i:Nat) (env:Env),4-i=n→i≤4→aW env (Jr now q u x y c (m7 V i) i)→
  VC fs ms B false (.loop eY) env h Q:=by
 intro n;induction n using Nat.strongRecOn with
 |ind n ih=>
 intro i env hn hi bM;refine an 5 (Jr now q u x y c (m7 V i) i) bM ?_;refine cK (aa true ?_);unfold Jr;conv=>whnf
 refine br (fun hc=>?_) (fun hc=>?_)<;>(try rw[hc])<;>(conv=>whnf)
 ·have hlt:i<4:=by have:=of_decide_eq_true hc;omega
  have SM:=F.nt.nn i hlt;refine aJ (aG ?_);refine aJ (VC.mono (Q:=fun x1 e1 h1=>x1=.normal∧h1=h∧aW e1 (Jr now q u x y c (m7 V (i+1)) i)) ?_ ?_)
  ·refine aq (z:=true) ?_;have SP:=C0 V i;cases hs:m7 V i with
   |true=>
    rw[hs,Bool.true_or] at SP;conv=>whnf
    exact⟨rfl,rfl,rfl,rfl,rfl,rfl,rfl,rfl,by rw[SP];rfl,rfl,trivial⟩
   |false=>
    rw[hs,Bool.false_or] at SP;conv=>whnf
    refine⟨_,bu (o:=0) hlt,?_⟩;conv=>whnf
    refine⟨_,bQ F.gu (F.get hlt),?_⟩;conv=>whnf
    exact⟨rfl,rfl,rfl,rfl,rfl,rfl,rfl,rfl,by rw[SP];rfl,rfl,trivial⟩
  ·rintro x1 e1 h1 ⟨rfl,rfl,rX⟩;refine an 5 (Jr now q u x y c (m7 V (i+1)) i) rX (aq (z:=true) ?_);unfold Jr;cases c with
   |false=>
    conv=>whnf
    refine aq (z:=true) ?_;conv=>whnf
    exact ih (4-(i+1)) (by omega) (i+1) _ rfl (by omega) ⟨rfl,rfl,rfl,rfl,rfl,rfl,rfl,aS (by omega),trivial⟩
   |true=>
    have Sz:=hF rfl i hlt;conv=>whnf
    refine⟨_,bu (o:=0) hlt,?_⟩;conv=>whnf
    refine⟨_,bQ F.gu (F.get hlt),?_⟩;conv=>whnf
    refine br (fun hc=>?_) (fun hc=>?_)<;>(try rw[hc])<;>(conv=>whnf)
    ·have hp:0<gD V i:=of_decide_eq_true hc;have Sz:=Sz hp;refine⟨_,bu (o:=0) hlt,?_⟩;conv=>whnf
     refine⟨_,bQ F.gu (F.get hlt),?_⟩;conv=>whnf
     rw[IntWalk.i64_in (gD V i-1) (by omega)];refine od (decide_eq_false Sz.1) (fun hc=>?_)
     (try rw[hc])
     conv=>whnf
     refine⟨_,bu (o:=0) hlt,?_⟩;conv=>whnf
     refine⟨_,bQ F.gu (F.get hlt),?_⟩;conv=>whnf
     rw[IntWalk.i64_in (gD V i-1) (by omega)];refine br (fun hc=>?_) (fun hc=>?_)<;>(try rw[hc])<;>(conv=>whnf)
     ·have heq:gD V i-1=y:=by simpa using hc
      refine od (decide_eq_false (fun h=>Sz.2 ⟨heq,h⟩)) (fun hc=>?_)
      (try rw[hc])
      conv=>whnf
      refine aq (z:=true) ?_;conv=>whnf
      exact ih (4-(i+1)) (by omega) (i+1) _ rfl (by omega) ⟨rfl,rfl,rfl,rfl,rfl,rfl,rfl,aS (by omega),trivial⟩
     ·refine aq (z:=true) ?_;conv=>whnf
      exact ih (4-(i+1)) (by omega) (i+1) _ rfl (by omega) ⟨rfl,rfl,rfl,rfl,rfl,rfl,rfl,aS (by omega),trivial⟩
    ·refine aq (z:=true) ?_;conv=>whnf
     exact ih (4-(i+1)) (by omega) (i+1) _ rfl (by omega) ⟨rfl,rfl,rfl,rfl,rfl,rfl,rfl,aS (by omega),trivial⟩
 ·have hge:i=4:=by have:=of_decide_eq_false hc;omega
  subst hge;exact hQ _ ⟨rfl,rfl,rfl,rfl,rfl,rfl,rfl,rfl,trivial⟩
theorem xq{t:Nat}(h:t<4):eR ((t:Nat):Int) 4=((t:Nat):Int):=Int.emod_eq_of_lt (by omega) (by omega)
def Tt(u:Nat)(n:Int)(v w:AV)(i:Nat):List (Nat×AV):=[(7,.ptr u 0),(16,.int .i64 n),(17,v),(18,w),(19,.int .i64 ((i:Nat):Int))]
theorem Md{q u lo1 Hz:Nat}{h:Heap}{S:List Nat}{L M:List Id}{V:List Int}{v w:AV}{n:Int}(F:FE h q S L u V)(ho:Ord L M)(h4:M.length≤4)(hv:dr lo1 h v (oe (uD M n)))(hw:dr Hz h w (oe M)){B:Nat}{Q:AX→Env→Heap→Prop}
  (hQ:∀e',Q (.exit 4) e' h):
  ∀(k i:Nat) (env:Env),M.length-i=k→i≤M.length→aW env (Tt u n v w i)→
  VC fs ms B false (.loop eZ) env h Q:=by
 have hpre:=DR (n:=n) ho.pw;have Oh:=uE M n;intro k;induction k using Nat.strongRecOn with
 |ind k ih=>
 intro i env hk hi bM;refine an 5 (Tt u n v w i) bM ?_;refine bB (z:=true) ?_;unfold Tt;conv=>whnf
 refine cM hw.read.1 ?_;conv=>whnf
 rw[dw];refine br (fun hc=>?_) (fun hc=>?_)<;>(try rw[hc])<;>(conv=>whnf)
 ·have hlt:i<M.length:=by have:=of_decide_eq_true hc;omega
  have hmem:gI M i∈L:=(ho.mem _).1 (bZ.2 ⟨i,hlt,rfl⟩);have hto:=F.nt.to _ hmem;have SM:=F.nt.nn _ hto.1;obtain⟨b,r1,r2⟩:=hw.read.2 i (by rw[dw];exact hlt);rw[y9 hlt] at r2;refine⟨_,r1,?_⟩;conv=>whnf
  refine⟨_,r2,?_⟩;conv=>whnf
  refine aZ (gP _ 4 (by omega) (by omega)) ?_;conv=>whnf
  rw[xq hto.1];refine⟨_,bu (o:=0) hto.1,?_⟩;conv=>whnf
  refine⟨_,bQ F.gu (F.get hto.1),?_⟩;conv=>whnf
  have hkey:IntKind.i64.wrap (gD V (gI M i).1-1)=(gI M i).2:=by rw[IntWalk.i64_in _ (by omega)];omega
  rw[hkey];have hiff:=hpre.2 i hlt;by_cases hle:(gI M i).2≤n
  ·have Lc:=hiff.1 hle;have d1:decide ((gI M i).2≤n)=true:=decide_eq_true hle;have d2:decide (((i:Nat):Int)<(((uD M n).length:Nat):Int))=true:=decide_eq_true (by omega);rw[d1];refine cM hv.read.1 ?_;conv=>whnf
   rw[dw];refine od (by rw[d2];rfl) (fun hc=>?_)
   (try rw[hc])
   conv=>whnf
   all_goals (try rw[d2])
   conv=>whnf
   iterate 6 (all_goals (try(refine od (by rw[d2];rfl) (fun hc=>?_);(try rw[hc]);(conv=>whnf))))
   refine cM hv.read.1 ?_;conv=>whnf
   rw[dw];iterate 6 (all_goals (try(refine od (by rw[d2];rfl) (fun hc=>?_);(try rw[hc]);(conv=>whnf))))
   refine IK (d2) (fun hc=>?_)
   (try rw[hc])
   conv=>whnf
   obtain⟨b',r3,r4⟩:=hv.read.2 i (by rw[dw];exact Lc);have hsame:gI (uD M n) i=gI M i:=by
    rw[hpre.1,gI,gI,List.getD_eq_getElem?_getD,List.getD_eq_getElem?_getD,List.getElem?_take,if_pos Lc]
   rw[y9 Lc,hsame] at r4;refine⟨_,r3,?_⟩;conv=>whnf
   refine⟨_,r4,?_⟩;conv=>whnf
   refine⟨_,r1,?_⟩;conv=>whnf
   refine⟨_,r2,?_⟩;conv=>whnf
   iterate 6 (all_goals (try(refine od (by rw[d2];rfl) (fun hc=>?_);(try rw[hc]);(conv=>whnf))))
   refine od (by simp) (fun hc=>?_)
   (try rw[hc])
   conv=>whnf
   iterate 6 (all_goals (try(refine od (by rw[d2];rfl) (fun hc=>?_);(try rw[hc]);(conv=>whnf))))
   exact ih (M.length-(i+1)) (by omega) (i+1) _ rfl (by omega) ⟨rfl,rfl,rfl,rfl,aS (by omega),trivial⟩
  ·have Lc:¬i<(uD M n).length:=fun h=>hle (hiff.2 h);have d1:decide ((gI M i).2≤n)=false:=decide_eq_false hle;have d2:decide (((i:Nat):Int)<(((uD M n).length:Nat):Int))=false:=decide_eq_false (by omega);rw[d1];refine cM hv.read.1 ?_;conv=>whnf
   rw[dw];iterate 6 (all_goals (try(refine od (by rw[d2];rfl) (fun hc=>?_);(try rw[hc]);(conv=>whnf))))
   refine cM hv.read.1 ?_;conv=>whnf
   rw[dw];iterate 6 (all_goals (try(refine od (by rw[d2];rfl) (fun hc=>?_);(try rw[hc]);(conv=>whnf))))
   refine od (d2) (fun hc=>?_)
   (try rw[hc])
   conv=>whnf
   iterate 6 (all_goals (try(refine od (by rw[d2];rfl) (fun hc=>?_);(try rw[hc]);(conv=>whnf))))
   exact ih (M.length-(i+1)) (by omega) (i+1) _ rfl (by omega) ⟨rfl,rfl,rfl,rfl,aS (by omega),trivial⟩
 ·exact hQ _
theorem zv(k:Nat)(l:List xj)(now:Int)(hl:l.length<2^62):PC fs ms 8 [.fz k (rK l),.int .i64 now] (.bool true):=by
 refine j9 (by simp[iy,AV.cl,B6]) rfl ?_;generalize hK:(fun(u:AV) (_:Heap)=>u=.bool true)=K;have BO:∀h,K (.bool true) h:=fun h=>by subst hK;rfl
 clear hK;generalize(⟨0,.nil⟩:Heap)=h0;refine bC (af:=C8) rfl (Nat.le_of_ble_eq_true rfl) ?_;conv=>whnf
 refine aa true ?_;conv=>whnf
 refine aa true ?_;conv=>whnf
 refine aZ nh ?_;conv=>whnf
 refine aa true ?_;conv=>whnf
 refine Bg 4 (fun hb=>by omega) fun _ _ h1 q S hq hS sP=>?_;conv=>whnf
 refine aa true ?_;conv=>whnf
 refine aa true ?_;conv=>whnf
 have F0:FE (h1.new (.cells [.int .i64 0,.int .i64 0,.int .i64 0,.int .i64 0] true 0)) q S [] h1.next [0,0,0,0]:=by
  refine⟨hq.keep ((Fr.refl h1 []).new) (by simp),aB,Nat.lt_succ_self _,fun h=>by have:=hq.own _ h;omega,rfl,fun y hy=>by simp at hy,fun t ht h=>?_,fun t ht=>?_⟩
  ·rcases(show t=0∨t=1∨t=2∨t=3 by omega) with rfl|rfl|rfl|rfl<;>simp[gD] at h
  ·rcases(show t=0∨t=1∨t=2∨t=3 by omega) with rfl|rfl|rfl|rfl<;>simp[gD]
 refine aJ (aa true ?_);conv=>whnf
 refine aG ?_;refine Mb (k:=k) (l:=l) (now:=now) (q:=q) (u:=h1.next) hl ?_ _ 0 _ S [] [0,0,0,0] _ rfl (Nat.zero_le _) F0 ⟨rfl,rfl,rfl,rfl,rfl,trivial⟩;intro e2 h2 S2 L2 V2 g1 g5 g7 F2;show VC fs ms _ _ _ _ _ _;have T0:∃(x y:Int) (c:Bool),(∀{Q:AV→Heap→Prop},Q (.cg [.int .i64 x,.int .i64 y,.bool c]) h2→VD fs ms 37 [.ptr q 0] h2 Q)∧(c=true→∀t:Nat,t<4→0<gD V2 t→¬(gD V2 t-1<y)∧¬(gD V2 t-1=y∧((t:Nat):Int)<x))∧c=m7 V2 4∧(c=true→∃t:Nat,t<4∧x=t∧gD V2 t=y+1∧0≤y∧y<200):=by
  by_cases hL:L2=[]
  ·refine⟨0,0,false,fun{Q} hQ=>sy F2.qa (fun _=>hQ) (fun x hx=>by have:=hx.1;rw[hL] at this;simp at this),fun h=>(by cases h),?_,fun h=>(by cases h)⟩;cases hs:m7 V2 4 with
   |false=>rfl
   |true=>exact absurd hL ((yc F2.nt).1 hs)
  ·have hs:=(yc F2.nt).2 hL;obtain⟨y0,hy0⟩:∃y0,Dj L2 y0:=by
    obtain⟨k,p,S',P,rfl,hn,hr,hg,hl⟩:=F2.qa.ex;exact⟨_,GY hr.hp (List.length_pos_iff.2 hL)⟩
   have hto:=F2.nt.to _ hy0.1;refine⟨(y0.1:Nat),y0.2,true,fun{Q} hQ=>sy F2.qa (fun h=>absurd h hL) (fun x hx=>?_),fun _ t ht hp=>?_,hs.symm,fun _=>⟨y0.1,hto.1,rfl,hto.2.1,hto.2.2,by have:=F2.nt.nn _ hto.1;omega⟩⟩
   ·have e:x=y0:=by
     have a1:=eJ.1 (hx.2 _ hy0.1);have a2:=eJ.1 (hy0.2 _ hx.1);exact Prod.ext (by omega) (by omega)
    rw[e];exact hQ
   ·have:=eJ.1 (hy0.2 _ (F2.nt.of t ht hp));simp only at this;omega
 obtain⟨x,y,c,d1,hF,hcs,hcx⟩:=T0;refine an 4 [(1,.int .i64 now),(5,.ptr q 0),(7,.ptr h1.next 0)] ⟨g1,g5,g7,trivial⟩ ?_;refine aa true ?_;conv=>whnf
 refine d1 ?_;conv=>whnf
 refine aa true ?_;conv=>whnf
 refine aJ (aa true ?_);conv=>whnf
 refine aG ?_;refine Mc (now:=now) (x:=x) (y:=y) (c:=c) F2 hF ?_ _ 0 _ rfl (by omega) ⟨rfl,rfl,rfl,rfl,rfl,rfl,rfl,rfl,trivial⟩;intro e3 K5;show VC fs ms _ _ _ _ _ _;rw[←hcs] at K5;refine an 5 (Jr now q h1.next x y c c 4) K5 ?_;unfold Jr;refine aJ (VC.mono (Q:=fun x1 e1 h'=>x1=.normal∧h'=h2∧aW e1 [(1,.int .i64 now),(5,.ptr q 0),(7,.ptr h1.next 0)]) (aq (z:=true) ?_) ?_)
 ·cases c with
  |false=>
   conv=>whnf
   exact⟨rfl,rfl,rfl,rfl,rfl,trivial⟩
  |true=>
   obtain⟨t,ht,rfl,hg,hy0,Fx⟩:=hcx rfl;conv=>whnf
   refine aZ (gP _ 4 (by omega) (by omega)) ?_;conv=>whnf
   rw[xq ht];refine⟨_,bu (o:=0) ht,?_⟩;conv=>whnf
   refine⟨_,bQ F2.gu (F2.get ht),?_⟩;conv=>whnf
   rw[IntWalk.i64_in (y+1) (by omega),hg];refine od (by simp) (fun hc=>?_)
   (try rw[hc])
   conv=>whnf
   exact⟨rfl,rfl,rfl,rfl,rfl,trivial⟩
 ·rintro x1 e1 h' ⟨rfl,rfl,rX⟩;refine an 4 [(1,.int .i64 now),(5,.ptr q 0),(7,.ptr h1.next 0)] rX ?_;refine aa true ?_;conv=>whnf
  refine aZ (gP now 220 (by omega) (by omega)) ?_;conv=>whnf
  generalize IntKind.i64.wrap (eR now 220-10)=n;refine aa true ?_;conv=>whnf
  refine D8 F2.qa n fun h3 v M k1 k2 k3 ql=>?_;conv=>whnf
  refine sA (F2.qa.keep ql (by simp)) fun h4 w M' j1 j2 j3 wL=>?_;conv=>whnf
  have hM:M'=M:=mq B0 BZ M' M j2.pw k2.pw fun y=>by rw[j2.mem,k2.mem]
  subst hM;have F4:FE h4 q S2 L2 h1.next V2:=⟨(F2.qa.keep ql (by simp)).keep wL (by simp),by rw[wL.keep _ (Nat.lt_of_lt_of_le F2.lu ql.next) (by simp),ql.keep _ F2.lu (by simp)];exact F2.gu,Nat.lt_of_lt_of_le F2.lu (Nat.le_trans ql.next wL.next),F2.uS,F2.nt⟩;have On:=k1.keep wL;have Oh:=uE M' n;refine aa true ?_;conv=>whnf
  refine cM On.read.1 ?_;conv=>whnf
  refine cM j1.read.1 ?_;conv=>whnf
  rw[dw,dw];refine od (decide_eq_false (by omega)) (fun hc=>?_)
  (try rw[hc])
  conv=>whnf
  refine aJ (aa true ?_);conv=>whnf
  refine aG ?_;refine Md F4 j2 j3 On j1 ?_ _ 0 _ rfl (Nat.zero_le _) ⟨rfl,rfl,rfl,rfl,rfl,trivial⟩;intro e5;show VC fs ms _ _ _ _ _ _;refine an 3 [] trivial (aq (z:=true) ?_);conv=>whnf
  exact BO _
end Ir
end Go.Proofs.Ytenafeojcgmnhaa
