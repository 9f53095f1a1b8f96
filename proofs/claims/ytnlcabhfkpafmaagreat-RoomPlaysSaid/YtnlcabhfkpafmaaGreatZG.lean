/-
  Room, in plain Lean: who goes on finds free what it uses; of those that have locked something the later ones have the earlier deadlines. Room, in plain Lean: what holds between steps. Room, in plain Lean: who goes on, and what a step does. Room's laws: the tasks that they make. Room's laws: calls of a room whose answers are known. Room's laws: the chapter's example.
-/
import Derived.Test.YtnlcabhfkpafmaaGreatZF
set_option maxRecDepth 100000
set_option linter.unusedSimpArgs false
set_option linter.unusedVariables false
set_option smartUnfolding false
namespace Go.Proofs.YtnlcabhfkpafmaaGreat
open Go Ads
namespace Ir
abbrev Js:=List (Option Jb)
def ij(js:Js)(i:Nat)(j:Jb):Prop:=js[i]?=some (some j)
theorem ij.eq{js:Js}{i:Nat}{j j':Jb}(h:ij js i j)(h':ij js i j'):j=j':=by
 rw[ij] at h h';rw[h] at h';cases h'
 rfl
def ZQ(js:Js)(a b:Nat):Prop:=∀j j',ij js a j→ij js b j'→ah (a,j.e) (b,j'.e)=true
def Sk(T:List Tk)(js:Js):List Nat→List En→List Nat→Prop
 |[],L,o=>L=[]∧o=[]
 |a::R,L,o=>∃L0 L1 o0,L=L0++L1∧o=o0++cond L1.isEmpty [] [a]∧(∀x∈L1,x.1=((a:Nat):Int))∧(∀x∈L0,ceil T x.2<lvl T a)∧a∉R∧(∀b∈R,ZQ js a b)∧Sk T js R L0 o0
section
variable {T:List Tk} {js Uv:Js} {R:List Nat} {L:List En} {o:List Nat} {a:Nat}
set_option smartUnfolding true in
theorem Sk.mem:∀{R:List Nat} {L:List En} {o:List Nat},Sk T js R L o→∀x∈L,∃a∈R,x.1=((a:Nat):Int)
 |[],L,o,h,x,hx=>by rw[h.1] at hx;simp at hx
 |a::R,L,o,⟨L0,L1,o0,h1,h2,h3,h4,h5,h6,h7⟩,x,hx=>by
  rw[h1,List.mem_append] at hx;rcases hx with hx|hx
  ·obtain⟨b,hb,e⟩:=h7.mem x hx;exact⟨b,by simp[hb],e⟩
  ·exact⟨a,by simp,h3 x hx⟩
set_option smartUnfolding true in
theorem Sk.UF:∀{R:List Nat} {L:List En} {o:List Nat},Sk T js R L o→∀x∈o,x∈R
 |[],L,o,h,x,hx=>by rw[h.2] at hx;simp at hx
 |a::R,L,o,⟨L0,L1,o0,h1,h2,h3,h4,h5,h6,h7⟩,x,hx=>by
  rw[h2,List.mem_append] at hx;rcases hx with hx|hx
  ·exact List.mem_cons_of_mem _ (h7.UF x hx)
  ·cases hl:L1.isEmpty with
   |true=>rw[hl] at hx;simp at hx
   |false=>rw[hl] at hx;simp at hx;simp[hx]
set_option smartUnfolding true in
theorem Sk.congr:∀{R:List Nat} {L:List En} {o:List Nat},Sk T js R L o→(∀a∈R,∀j',ij Uv a j'→∃j,ij js a j∧j.e=j'.e)→Sk T Uv R L o
 |[],L,o,h,_=>h
 |a::R,L,o,⟨L0,L1,o0,h1,h2,h3,h4,h5,h6,h7⟩,hc=>by
  refine⟨L0,L1,o0,h1,h2,h3,h4,h5,fun b hb j j' hj hj'=>?_,h7.congr fun b hb=>hc b (List.mem_cons_of_mem _ hb)⟩;obtain⟨k,k1,k2⟩:=hc a (by simp) j hj;obtain⟨l,l1,l2⟩:=hc b (List.mem_cons_of_mem _ hb) j' hj';rw[←k2,←l2];exact h6 b hb k l k1 l1
theorem so(L M:List En)(t:Int):bx (L++M) t=bx L t++bx M t:=by rw[bx,List.filter_append,List.map_append];rfl
theorem zH{L:List En}{t:Int}(h:∀x∈L,x.1≠t):bx L t=[]:=by
 rw[bx,List.filter_eq_nil_iff.2 (fun x hx=>by simpa using h x hx)];rfl
theorem vW{L:List En}{t:Int}(h:∀x∈L,x.1=t):bx L t=L.map (·.2):=by
 rw[bx,List.filter_eq_self.2 (fun x hx=>by simpa using h x hx)]
theorem Sk.no{L0:List En}{o0:List Nat}(h:Sk T js R L0 o0)(ha:a∉R):∀x∈L0,x.1≠((a:Nat):Int):=by
 intro x hx e;obtain⟨b,hb,e2⟩:=h.mem x hx;have:a=b:=by omega
 exact ha (this▸hb)
set_option smartUnfolding true in
theorem Sk.lock(h:Sk T js (a::R) L o)(x:Int):Sk T js (a::R) (L++[(((a:Nat):Int),x)]) (if bx L ((a:Nat):Int)=[] then o++[a] else o):=by
 obtain⟨L0,L1,o0,h1,h2,h3,h4,h5,h6,h7⟩:=h;have hh:bx L ((a:Nat):Int)=L1.map (·.2):=by rw[h1,so,zH (h7.no h5),vW h3];rfl
 refine⟨L0,L1++[(((a:Nat):Int),x)],o0,by rw[h1,List.append_assoc],?_,fun y hy=>?_,h4,h5,h6,h7⟩
 ·rw[hh,h2];cases L1 with
  |nil=>simp
  |cons y l=>simp
 ·rcases List.mem_append.1 hy with hy|hy
  ·exact h3 y hy
  ·rw[List.mem_singleton.1 hy]
theorem FG{l:List Nat}{a:Nat}(h:a∉l):l.filter (fun x=>!(x==a))=l:=by
 rw[List.filter_eq_self];intro x hx;have:x≠a:=fun e=>h (e▸hx);simpa using this
theorem Sk.gone{L0 L1:List En}{o0:List Nat}(h7:Sk T js R L0 o0)(h5:a∉R)(b:Bool):(o0++cond b [] [a]).filter (fun x=>!(x==a))=o0:=by
 rw[List.filter_append,FG (fun h=>h5 (h7.UF a h))];cases b<;>simp
set_option smartUnfolding true in
theorem Sk.unl(h:Sk T js (a::R) L o){n:Nat}(hn:n<L.length)(hla:dw L ((a:Nat):Int)=((n:Nat):Int)):
  Sk T js (a::R) (L.eraseIdx n) (if bx (L.eraseIdx n) ((a:Nat):Int)=[] then o.filter (fun x=>!(x==a)) else o):=by
 have hp:=sC L ((a:Nat):Int) L.length (Nat.le_refl _) n hn hla;obtain⟨L0,L1,o0,h1,h2,h3,h4,h5,h6,h7⟩:=h;subst h1;have hge:L0.length≤n:=by
  rcases Nat.lt_or_ge n L0.length with hlt|hge
  ·exfalso;rw[List.getElem_append_left hlt] at hp;exact h7.no h5 _ (List.getElem_mem hlt) (eq_of_beq hp)
  ·exact hge
 have he:(L0++L1).eraseIdx n=L0++L1.eraseIdx (n-L0.length):=List.eraseIdx_append_of_length_le hge _;have hsub:∀x∈L1.eraseIdx (n-L0.length),x.1=((a:Nat):Int):=fun x hx=>h3 x (List.eraseIdx_subset hx);have hh:bx ((L0++L1).eraseIdx n) ((a:Nat):Int)=(L1.eraseIdx (n-L0.length)).map (·.2):=by rw[he,so,zH (h7.no h5),vW hsub];rfl
 have hne:L1.isEmpty=false:=by
  cases L1 with
  |nil=>rw[List.append_nil] at hn;omega
  |cons x l=>rfl
 refine⟨L0,L1.eraseIdx (n-L0.length),o0,he,?_,hsub,h4,h5,h6,h7⟩;rw[hh,h2];cases hM:L1.eraseIdx (n-L0.length) with
 |nil=>rw[List.map_nil,if_pos rfl,h7.gone (L1:=L1) h5];simp
 |cons x l=>rw[if_neg (by simp),hne];rfl
end
set_option smartUnfolding true in
theorem MK{l:List Tk}{r:Int}{i:Nat}(hi:i<l.length)(h:uses l i r=true):lvl l i≤ceil l r:=by
 have key:∀n,i<n→lvl l i≤oX (kK l r) n:=by
  intro n;induction n with
  |zero=>intro h;omega
  |succ n ih=>
   intro hn;by_cases e:i=n
   ·subst e;rw[AS h];omega
   ·have:=ih (by omega);show _≤max _ _;omega
 exact key _ hi
theorem Ja{l:List Tk}{i k:Nat}{t u:Tk}(ht:l[i]?=some t)(hu:l[k]?=some u)(h:t.d≤u.d):lvl l k≤lvl l i:=by
 have hi:=(List.getElem?_eq_some_iff.1 ht).1;have hk:=(List.getElem?_eq_some_iff.1 hu).1;rw[wq (i:=((i:Nat):Int)) ⟨by omega,by omega⟩ (by rw[Int.toNat_natCast];exact ht),wq (i:=((k:Nat):Int)) ⟨by omega,by omega⟩ (by rw[Int.toNat_natCast];exact hu)];have:above l u.d≤above l t.d:=List.countP_mono_left fun x _ hx=>by
  simp only[decide_eq_true_eq] at hx⊢;omega
 omega
theorem NK{l:List Tk}{i:Nat}(hi:i<l.length):0<lvl l i:=by
 rw[wq (i:=((i:Nat):Int)) ⟨by omega,by omega⟩ (by rw[Int.toNat_natCast];exact List.getElem?_eq_getElem hi)];omega
theorem HE{T:List Tk}{L:List En}{n:Int}(h:∀x∈L,ceil T x.2<n)(h0:0<n):iy T L<n:=by
 have key:∀(L:List En) (a:Int),a<n→(∀x∈L,ceil T x.2<n)→L.foldl (fun n x=>max n (ceil T x.2)) a<n:=by
  intro L;induction L with
  |nil=>intro a ha _;exact ha
  |cons x L ih=>
   intro a ha hL;refine ih _ ?_ (fun y hy=>hL y (by simp[hy]));have:=hL x (by simp);show max _ _<n;omega
 exact key L 0 h0 h
theorem HD{T:List Tk}{L:List En}{x:En}(h:x∈L):ceil T x.2≤iy T L:=by
 have k0:∀(L:List En) (a:Int),a≤L.foldl (fun n x=>max n (ceil T x.2)) a:=by
  intro L;induction L with
  |nil=>intro a;exact Int.le_refl _
  |cons y L ih=>intro a;exact Int.le_trans (by omega) (ih (max a (ceil T y.2)))
 have key:∀(L:List En) (a:Int),x∈L→ceil T x.2≤L.foldl (fun n x=>max n (ceil T x.2)) a:=by
  intro L;induction L with
  |nil=>intro a h;simp at h
  |cons y L ih=>
   intro a h;rcases List.mem_cons.1 h with rfl|h
   ·exact Int.le_trans (by omega) (k0 L (max a (ceil T x.2)))
   ·exact ih _ h
 exact key L 0 h
theorem mZ{js:Js}{i n:Nat}{x:Option Jb}{jn:Jb}:ij (js.set i x) n jn↔(n=i∧i<js.length∧x=some jn)∨(n≠i∧ij js n jn):=by
 rw[ij,List.getElem?_set];by_cases e:i=n
 ·rw[if_pos e];by_cases hl:i<js.length
  ·rw[if_pos hl];constructor
   ·intro h;exact .inl ⟨e.symm,hl,Option.some.inj h⟩
   ·rintro(⟨_,_,h⟩|⟨h,_⟩)
    ·rw[h]
    ·exact absurd e.symm h
  ·rw[if_neg hl];constructor
   ·intro h;cases h
   ·rintro(⟨_,h,_⟩|⟨h,_⟩)
    ·exact absurd h hl
    ·exact absurd e.symm h
 ·rw[if_neg e];constructor
  ·intro h;exact .inr ⟨fun h=>e h.symm,h⟩
  ·rintro(⟨h,_⟩|⟨_,h⟩)
   ·exact absurd h.symm e
   ·exact h
def za(js:Js)(i:Nat)(j:Jb):Prop:=ij js i j∧∀(i':Nat) (j':Jb),ij js i' j'→ah (i',j'.e) (i,j.e)=false
theorem Ct{a b:Id}(hn:a.1≠b.1)(h:ah a b=false):ah b a=true:=by
 rw[mE] at h;rw[ny];omega
structure Inv(T:List Tk)(js:Js)(L:List En)(now:Int)(R:List Nat)(o:List Nat):Prop where
 n4:T.length≤4
 jl:js.length=T.length
 tk:∀i j,ij js i j→T[i]?=some j.t
 sec:∀i j,ij js i j→j.s=0∨j.s=1
 e:∀i j,ij js i j→j.e≤now+j.t.d
 rj:∀a∈R,∃j,ij js a j
 gR:∀i j,ij js i j→j.g=true→i∈R
 nf:∀f j a ja,ij js f j→f∉R→a∈R→ij js a ja→ah (f,j.e) (a,ja.e)=true→j.t.d≤ja.t.d
 sk:Sk T js R L o
 ln:(L.length:Int)≤now
section
variable {T:List Tk} {js:Js} {L L':List En} {now:Int} {R:List Nat} {o o':List Nat} {i:Nat} {j j':Jb}
theorem Inv.lt(I:Inv T js L now R o)(h:ij js i j):i<T.length:=(List.getElem?_eq_some_iff.1 (I.tk i j h)).1
theorem Sk.head{a:Nat}{R:List Nat}(h:Sk T js (a::R) L o):∀b∈R,ZQ js a b:=by
 obtain⟨L0,L1,o0,h1,h2,h3,h4,h5,h6,h7⟩:=h;exact h6
theorem Inv.H6(I:Inv T js L now R o)(F:za js i j)(hi:i∈R):∃R',R=i::R':=by
 cases hR:R with
 |nil=>rw[hR] at hi;simp at hi
 |cons a R'=>
  rw[hR] at hi;rcases List.mem_cons.1 hi with rfl|hi
  ·exact⟨R',rfl⟩
  ·exfalso;have sk:=I.sk;rw[hR] at sk;obtain⟨ja,GO⟩:=I.rj a (by rw[hR];simp);have:=sk.head i hi ja j GO F.1;rw[F.2 a ja GO] at this;cases this
theorem Inv.who(I:Inv T js L now R o)(F:za js i j)(h:j.g=true∨lvl T i>iy T L):(∃R',R=i::R')∨(i∉R∧Inv T js L now (i::R) o):=by
 by_cases hi:i∈R
 ·exact .inl (I.H6 F hi)
 ·right;have hl:lvl T i>iy T L:=h.resolve_left fun hg=>hi (I.gR i j F.1 hg);refine⟨hi,I.n4,I.jl,I.tk,I.sec,I.e,fun a ha=>?_,fun n jn h1 h2=>List.mem_cons_of_mem _ (I.gR n jn h1 h2),fun f jf a ja h1 h2 h3 h4 h5=>?_,⟨L,[],o,by simp,by simp,by simp,fun x hx=>?_,hi,fun b hb ji jb h1 h2=>?_,I.sk⟩,I.ln⟩
  ·rcases List.mem_cons.1 ha with rfl|ha
   ·exact⟨j,F.1⟩
   ·exact I.rj a ha
  ·rcases List.mem_cons.1 h3 with rfl|h3
   ·rw[h4.eq F.1,F.2 f jf h1] at h5;cases h5
   ·exact I.nf f jf a ja h1 (fun h=>h2 (by simp[h])) h3 h4 h5
  ·have:=HD (T:=T) hx;omega
  ·rw[h1.eq F.1];exact Ct (fun e=>hi (by have e:b=i:=e;rw[←e];exact hb)) (F.2 b jb h2)
set_option smartUnfolding true in
theorem Inv.top(I:Inv T js L now R o)(F:za js i j)(hl:¬lvl T i>iy T L):∃a R',R=a::R'∧qv L=(((a:Nat):Int),true)∧bx L ((a:Nat):Int)≠[]∧
  (i=a∨(i∉R∧¬∀x∈L,x.1=((a:Nat):Int)→ceil T x.2<lvl T i)):=by
 have hlt:=I.lt F.1;have hpos:=NK hlt;cases hR:R with
 |nil=>
  exfalso;have sk:=I.sk;rw[hR] at sk;rw[sk.1] at hl;exact hl (by show lvl T i>0;omega)
 |cons a R'=>
  have sk:=I.sk;rw[hR] at sk;obtain⟨L0,L1,o0,h1,h2,h3,h4,h5,h6,h7⟩:=sk;obtain⟨ja,GO⟩:=I.rj a (by rw[hR];simp);have GN:i=a∨(i∉R∧lvl T a≤lvl T i):=by
   by_cases e:i=a
   ·exact .inl e
   ·right;have hn:i∉R:=fun hi=>by
     obtain⟨R2,h⟩:=I.H6 F hi;rw[hR] at h;cases h
     exact e rfl
    exact⟨hn,Ja (I.tk i j F.1) (I.tk a ja GO) (I.nf i j a ja F.1 hn (by rw[hR];simp) GO (Ct (fun h=>e h.symm) (F.2 a ja GO)))⟩
  have hle:lvl T a≤lvl T i:=by
   rcases GN with rfl|h
   ·exact Int.le_refl _
   ·exact h.2
  have hno:¬∀x∈L,x.1=((a:Nat):Int)→ceil T x.2<lvl T i:=by
   intro hall;apply hl;refine HE (fun x hx=>?_) hpos;rw[h1] at hx;rcases List.mem_append.1 hx with h|h
   ·have:=h4 x h;omega
   ·exact hall x (by rw[h1];exact List.mem_append_right _ h) (h3 x h)
  have hne:L1≠[]:=by
   intro e;apply hno;intro x hx e2;rw[h1,e,List.append_nil] at hx;exact absurd e2 (h7.no h5 x hx)
  refine⟨a,R',rfl,?_,?_,?_⟩
  ·obtain⟨y,hy⟩:∃y,L1.getLast?=some y:=by
    rw[List.getLast?_eq_some_getLast hne];exact⟨_,rfl⟩
   have:L.getLast?=some y:=by rw[h1,List.getLast?_append,hy];rfl
   rw[qv,this];show(y.1,true)=_;rw[h3 y (List.mem_of_getLast? hy)]
  ·rw[h1,so,zH (h7.no h5),vW h3];cases L1 with
   |nil=>exact absurd rfl hne
   |cons x l=>simp
  ·rcases GN with h|h
   ·exact .inl h
   ·exact .inr ⟨by rw[←hR];exact h.1,hno⟩
set_option smartUnfolding true in
theorem Inv.free{a:Nat}{R':List Nat}(I:Inv T js L now (a::R') o){x u:Int}(hu:uses T a x=true)(hx:(u,x)∈L):u=((a:Nat):Int):=by
 obtain⟨ja,GO⟩:=I.rj a (by simp);obtain⟨L0,L1,o0,h1,h2,h3,h4,h5,h6,h7⟩:=I.sk;rw[h1] at hx;rcases List.mem_append.1 hx with h|h
 ·have:ceil T x<lvl T a:=h4 _ h;have:=MK (I.lt GO) hu;omega
 ·exact h3 _ h
theorem Inv.mN(I:Inv T js L now R o)(hj:ij js i j)(h1:j'.e=j.e)(h2:j'.t=j.t)(h3:j'.s=0∨j'.s=1)(h4:j'.g=true→i∈R)(hs:Sk T js R L' o')(hl:(L'.length:Int)≤now):Inv T (js.set i (some j')) L' now R o':=by
 have KJ:i<js.length:=(List.getElem?_eq_some_iff.1 hj).1;have old:∀{n jn},ij (js.set i (some j')) n jn→∃k,ij js n k∧k.e=jn.e∧k.t=jn.t∧(jn=j'∧n=i∨jn=k):=fun h=>by
  rcases mZ.1 h with⟨a,_,b⟩|⟨_,h⟩
  ·cases b
   subst a;exact⟨j,hj,h1.symm,h2.symm,.inl ⟨rfl,rfl⟩⟩
  ·exact⟨_,h,rfl,rfl,.inr rfl⟩
 refine⟨I.n4,by rw[List.length_set];exact I.jl,fun n jn h=>?_,fun n jn h=>?_,fun n jn h=>?_,fun a ha=>?_,fun n jn h hg=>?_,fun f jf a ja b1 b2 b3 b4 b5=>?_,hs.congr fun a ha ja h=>?_,hl⟩
 ·obtain⟨k,k1,k2,k3,k4⟩:=old h;rw[←k3];exact I.tk n k k1
 ·obtain⟨k,k1,k2,k3,k4⟩:=old h;rcases k4 with⟨rfl,_⟩|rfl
  ·exact h3
  ·exact I.sec n _ k1
 ·obtain⟨k,k1,k2,k3,k4⟩:=old h;rw[←k2,←k3];exact I.e n k k1
 ·obtain⟨ja,GO⟩:=I.rj a ha;by_cases e:a=i
  ·exact⟨j',mZ.2 (.inl ⟨e,KJ,rfl⟩)⟩
  ·exact⟨ja,mZ.2 (.inr ⟨e,GO⟩)⟩
 ·obtain⟨k,k1,k2,k3,k4⟩:=old h;rcases k4 with⟨rfl,rfl⟩|rfl
  ·exact h4 hg
  ·exact I.gR n _ k1 hg
 ·obtain⟨k,k1,k2,k3,k4⟩:=old b1;obtain⟨l,l1,l2,l3,l4⟩:=old b4;rw[←k3,←l3];rw[←k2,←l2] at b5;exact I.nf f k a l k1 b2 b3 l1 b5
 ·obtain⟨k,k1,k2,_⟩:=old h;exact⟨k,k1,k2⟩
end
def JE(js Uv:Js):Prop:=(∀i j',ij Uv i j'→∃j,ij js i j∧j.e=j'.e)∧∀i j,ij js i j→∃j',ij Uv i j'∧j'.e=j.e
theorem JE.refl(js:Js):JE js js:=⟨fun i j h=>⟨j,h,rfl⟩,fun i j h=>⟨j,h,rfl⟩⟩
theorem JE.set{js:Js}{i:Nat}{j j':Jb}(h:ij js i j)(he:j'.e=j.e):JE js (js.set i (some j')):=by
 have hl:i<js.length:=(List.getElem?_eq_some_iff.1 h).1;refine⟨fun n jn hn=>?_,fun n jn hn=>?_⟩
 ·rcases mZ.1 hn with⟨rfl,_,e⟩|⟨_,h'⟩
  ·cases e
   exact⟨j,h,he.symm⟩
  ·exact⟨jn,h',rfl⟩
 ·by_cases e:n=i
  ·subst e;rw[hn.eq h];exact⟨j',mZ.2 (.inl ⟨rfl,hl,rfl⟩),he⟩
  ·exact⟨jn,mZ.2 (.inr ⟨e,hn⟩),rfl⟩
def dD(T:List Tk)(js:Js)(L:List En)(R:List Nat)(a:Nat):Prop:=∀t jt ja,ij js t jt→ij js a ja→t∉R→ah (t,jt.e) (a,ja.e)=true→
 ∃f jf,ij js f jf∧f∉R∧(f=t∨ah (f,jf.e) (t,jt.e)=true)∧¬∀x∈L,x.1=((a:Nat):Int)→ceil T x.2<lvl T f
section
variable {T:List Tk} {js:Js} {L L':List En} {now:Int} {R:List Nat} {o o':List Nat} {i:Nat} {j:Jb}
end
theorem HA{i n:Int}(h:0<n):0≤r5 i n∧r5 i n<n:=⟨Int.emod_nonneg _ (by omega),Int.emod_lt_of_pos _ h⟩
section
variable {h:Heap} {col:Nat→Nat} {r:Nat} {st:St} {Q:AV→Heap→Prop} {i:Nat} {j:Jb} {lY:Tk} {l:List Op} {kk:Nat} {now n:Int}
theorem Ac(R:RA h col r st)(hk:kk=3→l=[])(hl:l.length≤1000)(h0:cw st.T i≠0→Q (.int .i64 (cw st.T i)) h)
  (h1:∀(i':Nat) (j:Jb),((i:Nat):Int)=((i':Nat):Int)→st.j[i']?=some (some j)→Q (.int .i64 141) h)
  (h2:∀(i':Nat) (tk:Tk),((i:Nat):Int)=((i':Nat):Int)→st.T[i']?=some tk→st.j[i']?=some none→fU tk l now≠0→∀h' aB,RA h' aB r st→Kc h h' col aB vo→Q (.int .i64 (fU tk l now)) h')
  (h3:∀(i':Nat) (tk:Tk) (n:Int),((i:Nat):Int)=((i':Nat):Int)→st.T[i']?=some tk→st.j[i']?=some none→fU tk l now=0→st.g[i']?=some n→ku n now≠0→∀h' aB,RA h' aB r st→Kc h h' col aB vo→Q (.int .i64 (ku n now)) h')
  (h4:∀(i':Nat) (tk:Tk) (n:Int),((i:Nat):Int)=((i':Nat):Int)→st.T[i']?=some tk→st.j[i']?=some none→fU tk l now=0→st.g[i']?=some n→ku n now=0→∀h' aB,RA h' aB r {st with j:=st.j.set i' (some (jE tk l now)),g:=st.g.set i' (zx tk.p n now)}→Kc h h' col aB vo→Q (.int .i64 0) h'):
  VD fs ms 28 [.ptr r 0,.int .i64 ((i:Nat):Int),.fz kk (ops l),.int .i64 now] h Q:=
 EU R (bs:=[]) (by simp) (fun t0 Q a b=>I2 hk (by omega) a b) h0 h1 h2 h3 h4
theorem Cu(hi:i<st.T.length):cw st.T i=0:=by rw[cw,decide_eq_false (by omega),decide_eq_false (by omega)];rfl
theorem Du(R:RA h col r st)(hk:kk=3→l=[])(hl:l.length≤1000)(ht:st.T[i]?=some lY)(hj:st.j[i]?=some none)(hg:st.g[i]?=some n)(hz:fU lY l now=0)(ha:ku n now=0)
  (hQ:∀h' aB,RA h' aB r {st with j:=st.j.set i (some (jE lY l now)),g:=st.g.set i (zx lY.p n now)}→Q (.int .i64 0) h'):VD fs ms 28 [.ptr r 0,.int .i64 ((i:Nat):Int),.fz kk (ops l),.int .i64 now] h Q:=by
 refine Ac R hk hl (fun h=>(h (Cu (List.getElem?_eq_some_iff.1 ht).1)).elim) (fun i' j' hi' hj'=>?_) (fun i' t' hi' ht' _ hn=>?_) (fun i' t' n' hi' ht' _ _ hg' hn=>?_) (fun i' t' n' hi' ht' hj' _ hg' _ h' aB R' _=>?_);all_goals obtain rfl:i=i':=by omega
 ·rw[hj] at hj';cases hj'
 ·rw[ht] at ht';cases ht';exact absurd hz hn
 ·rw[hg] at hg';cases hg';exact absurd ha hn
 ·rw[ht] at ht';cases ht';rw[hg] at hg';cases hg';exact hQ h' aB R'
theorem JK(R:RA h col r st)(hk:kk=3→l=[])(hl:l.length≤1000)(hi:i<st.T.length)(hj:st.j[i]?=some (some j))(hQ:Q (.int .i64 141) h):VD fs ms 28 [.ptr r 0,.int .i64 ((i:Nat):Int),.fz kk (ops l),.int .i64 now] h Q:=by
 refine Ac R hk hl (fun h=>(h (Cu hi)).elim) (fun i' j' hi' hj'=>hQ) (fun i' t' hi' ht' hj' hn=>?_) (fun i' t' n' hi' ht' hj' _ hg' hn=>?_) (fun i' t' n' hi' ht' hj' _ hg' _ h' aB R' _=>?_);all_goals (obtain rfl:i=i':=by omega);rw[hj] at hj';cases hj'
theorem Gr(R:RA h col r st)(hk:kk=3→l=[])(hl:l.length≤1000)(ht:st.T[i]?=some lY)(hj:st.j[i]?=some none)(hg:st.g[i]?=some n)(hz:fU lY l now=0)(ha:ku n now=140)
  (hQ:∀h' aB,RA h' aB r st→Q (.int .i64 140) h'):VD fs ms 28 [.ptr r 0,.int .i64 ((i:Nat):Int),.fz kk (ops l),.int .i64 now] h Q:=by
 refine Ac R hk hl (fun h=>(h (Cu (List.getElem?_eq_some_iff.1 ht).1)).elim) (fun i' j' hi' hj'=>?_) (fun i' t' hi' ht' _ hn=>?_) (fun i' t' n' hi' ht' _ _ hg' hn h' aB R' _=>?_) (fun i' t' n' hi' ht' hj' _ hg' hn h' aB R' _=>?_);all_goals obtain rfl:i=i':=by omega
 ·rw[hj] at hj';cases hj'
 ·rw[ht] at ht';cases ht';exact absurd hz hn
 ·rw[hg] at hg';cases hg';rw[ha];exact hQ h' aB R'
 ·rw[hg] at hg';cases hg';rw[ha] at hn;cases hn
theorem Af{e:Int}{j':Jb}(R:RA h col r st)(hi:i<st.T.length)(hj:st.j[i]?=some (some j))(he:mo j=e)(hj':nO j=j')(hQ:∀h' aB,RA h' aB r {st with j:=st.j.set i (some j')}→Q (.int .i64 e) h'):VD fs ms 21 [.ptr r 0,.int .i64 ((i:Nat):Int)] h Q:=by
 subst he;subst hj';refine EV R (fun h=>(h (gO hi hj)).elim) (fun i' j' hi' hj' h' aB R' _=>?_);obtain rfl:i=i':=by omega
 rw[hj] at hj';cases hj';exact hQ h' aB R'
theorem D2{e:Int}{j':Jb}(R:RA h col r st)(hi:i<st.T.length)(hj:st.j[i]?=some (some j))(he:uq j=e)(hj':v7 j=j')(hQ:∀h' aB,RA h' aB r {st with j:=st.j.set i (some j')}→Q (.int .i64 e) h'):VD fs ms 20 [.ptr r 0,.int .i64 ((i:Nat):Int)] h Q:=by
 subst he;subst hj';refine ES R (fun h=>(h (gO hi hj)).elim) (fun i' j' hi' hj' h' aB R' _=>?_);obtain rfl:i=i':=by omega
 rw[hj] at hj';cases hj';exact hQ h' aB R'
theorem I9{x:Int}{j':Jb}(R:RA h col r st)(hL:st.L.length≤900)(hi:i<st.T.length)(hj:st.j[i]?=some (some j))(hs:j.s<2)(hz:fm st.T st.L i x=0)(hj':yG j=j')(hQ:∀h' aB,RA h' aB r {st with L:=st.L++[(((i:Nat):Int),x)],j:=st.j.set i (some j')}→Q (.int .i64 0) h'):
  VD fs ms 22 [.ptr r 0,.int .i64 ((i:Nat):Int),.int .i64 x] h Q:=by
 subst hj';refine B0 R hL (fun h=>(h (gO hi hj)).elim) (fun i' j' hi' hj' hs'=>?_) (fun i' j' hi' hj' _ hn=>(hn hz).elim) (fun i' j' hi' hj' _ _ h' aB R' _=>?_);all_goals (obtain rfl:i=i':=by omega);rw[hj] at hj';cases hj'
 ·omega
 ·exact hQ h' aB R'
theorem DF{m:Nat}{j':Jb}(R:RA h col r st)(hL:st.L.length≤900)(hi:i<st.T.length)(hj:st.j[i]?=some (some j))(hz:iT st.T st.L i=0)(hm:dw st.L i=((m:Nat):Int))(hj':uP (st.L.eraseIdx m) i j=j')
  (hQ:∀h' aB,RA h' aB r {st with L:=st.L.eraseIdx m,j:=st.j.set i (some j')}→Q (.int .i64 0) h'):VD fs ms 23 [.ptr r 0,.int .i64 ((i:Nat):Int)] h Q:=by
 subst hj';refine wP R hL (fun h=>(h (gO hi hj)).elim) (fun i' j' hi' hj' hn=>(hn hz).elim) (fun i' j' hi' hj' _ m' _ hm' h' aB R' _=>?_);obtain rfl:i=i':=by omega
 obtain rfl:m=m':=by omega
 rw[hj] at hj';cases hj';exact hQ h' aB R'
theorem M6(R:RA h col r st)(hL:st.L.length≤900)(hi:i<st.T.length)(hj:st.j[i]?=some (some j))(hQ:∀h' aB,RA h' aB r {st with L:=jF st.L i,j:=st.j.set i none}→Q (.bool true) h'):VD fs ms 27 [.ptr r 0,.int .i64 ((i:Nat):Int)] h Q:=by
 refine ET R hL (fun h=>(h (gO hi hj)).elim) (fun i' j' hi' hj' h' aB R' _=>?_);obtain rfl:i=i':=by omega
 exact hQ h' aB R'
theorem vL{js:Js}{i i':Nat}{j j':Jb}(F:za js i j)(F':za js i' j'):i=i':=by
 by_cases e:i=i'
 ·exact e
 ·have:=Ct (a:=(i',j'.e)) (b:=(i,j.e)) (fun h=>e h.symm) (F.2 i' j' F'.1);rw[F'.2 i j F.1] at this;cases this
theorem Fa(R:RA h col r st)(hL:st.L.length≤900)(hs:∀(i:Nat) (j:Jb),st.j[i]?=some (some j)→j.s<2)(F:za st.j i j)(hc:j.g=true∨lvl st.T i>iy st.T st.L)(hQ:Q (.bool true) h):VD fs ms 31 [.ptr r 0,.int .i64 ((i:Nat):Int)] h Q:=by
 refine aj (af:=SZ) true rfl (yB rfl) ?_;conv=>whnf
 refine Ad R hL (fun i' j' hj' h2=>?_) (fun hno=>(hno i j F.1).elim) (fun _ i' j' F' _=>?_) (fun _ i' j' F' hg hl=>?_)
 ·have:=hs i' j' hj';omega
 ·obtain rfl:=vL F F';conv=>whnf
  refine qq (by simp) (fun hc=>?_)
  (try rw[hc])
  conv=>whnf
  exact hQ
 ·obtain rfl:=vL F F';obtain rfl:j=j':=ij.eq F.1 F'.1;rcases hc with h|h
  ·rw[h] at hg;cases hg
  ·exact(hl h).elim
theorem O0{t:Nat}(R:RA h col r st)(hL:st.L.length≤900)(hs:∀(i:Nat) (j:Jb),st.j[i]?=some (some j)→j.s<2)(F:za st.j i j)(hc:j.g=false)(Bd:¬lvl st.T i>iy st.T st.L)(ht:qv st.L=(((t:Nat):Int),true))(hQ:Q (.bool true) h):VD fs ms 31 [.ptr r 0,.int .i64 ((t:Nat):Int)] h Q:=by
 refine aj (af:=SZ) true rfl (yB rfl) ?_;conv=>whnf
 refine Ad R hL (fun i' j' hj' h2=>?_) (fun hno=>(hno i j F.1).elim) (fun _ i' j' F' h=>?_) (fun _ i' j' F' hg hl=>?_)
 ·have:=hs i' j' hj';omega
 ·obtain rfl:=vL F F';obtain rfl:j=j':=ij.eq F.1 F'.1;rcases h with h|h
  ·rw[h] at hc;cases hc
  ·exact(Bd h).elim
 ·rw[ht];conv=>whnf
  refine qq (by simp) (fun hc=>?_)
  (try rw[hc])
  conv=>whnf
  exact hQ
end
def KR:Tk:=⟨20,10,4,1,1,0,0,0⟩
def PN:Tk:=⟨30,20,6,1,3,0,0,0⟩
def w8:List Op:=[⟨2,0,[]⟩,⟨1,3,[]⟩,⟨3,0,[]⟩,⟨1,3,[]⟩]
def DH:List Op:=[⟨1,2,[]⟩]
theorem zv{h H:Heap}{b:Nat}(f:Fr h H [])(hb:h.next≤b):Fr h (fh [b] H) []:=by
 refine⟨f.next,fun c hc _=>?_⟩;show(H.del b).get c=_;rw[ep (by omega)];exact f.keep c hc (by simp)
theorem D6{h:Heap}{s:Nat}{l:List AV}{vs:List AV}(hs:aN s l=true)(hc:cC l=true)(hv:vs=aa l):nu (· ∈[h.next]) (h.new (.cells vs true 0)) (.sl h.next 0 l.length l.length false) (.fz 0 l):=
 pY (by simp) ai (by rw[hv,List.append_nil]) hs rfl (Nat.le_refl _) hc
theorem Ao{js:Js}{a b:Option Jb}(e:js=[a,b])(i:Nat)(j:Jb)(h:js[i]?=some (some j)):(i=0∧a=some j)∨(i=1∧b=some j):=by
 subst e
 match i,h with
 |0,h=>exact .inl ⟨rfl,Option.some.inj h⟩
 |1,h=>exact .inr ⟨rfl,Option.some.inj h⟩
 |n+2,h=>cases h
theorem Kr{js:Js}{a b:Option Jb}(e:js=[a,b])(h:(a.map Jb.s).getD 0<2∧(b.map Jb.s).getD 0<2)(i:Nat)(j:Jb)(hj:js[i]?=some (some j)):j.s<2:=by
 rcases Ao e i j hj with⟨_,rfl⟩|⟨_,rfl⟩
 ·exact h.1
 ·exact h.2
theorem Ph{js:Js}{a:Jb}{b:Option Jb}(e:js=[some a,b])(h:ah (0,a.e) (0,a.e)=false∧ah (1,(b.map Jb.e).getD 0) (0,a.e)=false):za js 0 a:=by
 refine⟨by rw[e];rfl,fun i j hj=>?_⟩;rcases Ao e i j hj with⟨rfl,h1⟩|⟨rfl,rfl⟩
 ·cases h1;exact h.1
 ·exact h.2
theorem Tz{js:Js}{b:Jb}(e:js=[none,some b])(h:ah (1,b.e) (1,b.e)=false):za js 1 b:=by
 refine⟨by rw[e];rfl,fun i j hj=>?_⟩;rcases Ao e i j hj with⟨rfl,h1⟩|⟨rfl,h1⟩
 ·cases h1
 ·cases h1;exact h
def wS0:St:=⟨[KR,PN],[],[none,none],[0,0]⟩
def GK(l:List Op)(n s k:Int):Jb:=⟨PN,l,20,n,s,k,0,true⟩
def SW:Jb:=⟨KR,DH,11,0,0,0,0,false⟩
def PM(L:List En)(a b:Option Jb)(g:Int):St:=⟨[KR,PN],L,[a,b],[g,30]⟩
theorem y8:PC fs ms 7 [] (.bool true):=by
 refine cq rfl rfl ?_;refine bX (af:=C7) rfl (yB rfl) ?_;generalize hQ:(fun(v:AV) (_:Heap)=>v=.bool true)=Q;conv=>whnf
 refine aE true ?_;conv=>whnf
 refine aE true ?_;conv=>whnf
 refine aG 3 [(1,.sl 0 0 2 2 false)] ⟨rfl,trivial⟩ (pK [0] (i:=1) (v':=.fz 0 (eP [KR,PN])) rfl (D6 (h:=⟨0,.nil⟩) (s:=8) (l:=eP [KR,PN]) rfl rfl rfl) ?_);refine aG 3 [(1,.fz 0 (eP [KR,PN]))] ⟨rfl,trivial⟩ ?_;generalize fh [0] _=h1;refine aE true ?_;conv=>whnf
 refine Ab (col:=fun _=>0) 0 [KR,PN] (fun h=>by cases h) (by decide) (fun hn=>(hn (by decide)).elim) (fun _ h2 iR r R0 _=>?_);conv=>whnf
 refine bt (an (z:=true) ?_);conv=>whnf
 refine aE true ?_;conv=>whnf
 refine aE true ?_;conv=>whnf
 have R0:RA h2 iR r wS0:=R0;have lf:Fr h2 ((h2.new (.cells (aa (ops w8)) true 0)).new (.cells (aa (ops DH)) true 0)) []:=(Fr.refl h2 []).new.new;have R1:=R0.nil (zv (b:=h2.next) (zv (b:=h2.next+1) lf (Nat.le_succ _)) (Nat.le_refl _));have gA:(fh [h2.next+1] ((h2.new (.cells (aa (ops w8)) true 0)).new (.cells (aa (ops DH)) true 0))).get h2.next=some (.cells (aa (ops w8)) true 0):=by
  show(Heap.del _ _).get _=_;rw[ep (by omega),az (Nat.lt_succ_self _)];exact ai
 show VC fs ms _ _ _ _ ((h2.new (.cells (aa (ops w8)) true 0)).new (.cells (aa (ops DH)) true 0)) _;refine aG 3 [(2,.ptr r 0),(4,.sl h2.next 0 4 4 false),(5,.sl (h2.next+1) 0 1 1 false)] ⟨rfl,rfl,rfl,trivial⟩ ?_;refine pK [h2.next+1] (i:=5) (v':=.fz 0 (ops DH)) rfl (D6 (h:=h2.new (.cells (aa (ops w8)) true 0)) (s:=3) (l:=ops DH) rfl rfl rfl) ?_;refine pK [h2.next] (i:=4) (v':=.fz 0 (ops w8)) rfl (pY (s:=3) (rest:=[]) (by simp) gA rfl rfl rfl (Nat.le_refl _) rfl) ?_;refine aG 3 [(2,.ptr r 0),(4,.fz 0 (ops w8)),(5,.fz 0 (ops DH))] ⟨rfl,rfl,rfl,trivial⟩ ?_;generalize fh [h2.next] _=h3 at*;refine aE true ?_;conv=>whnf
 refine Du (i:=1) (lY:=PN) (n:=0) R1 (fun h=>by cases h) (by decide) rfl rfl rfl rfl rfl fun h4 c4 R4=>?_;conv=>whnf
 refine Fa (i:=1) R4 (by decide) (Kr rfl (by decide)) (Tz rfl (by decide)) (.inr (by decide)) ?_;conv=>whnf
 refine I9 (i:=1) R4 (by decide) (by decide) rfl (by decide) (by decide) rfl fun h5 c5 R5=>?_;conv=>whnf
 refine D2 (i:=1) (e:=0) R5 (by decide) rfl rfl rfl fun h6 c6 R6=>?_;conv=>whnf
 replace R6:RA h6 c6 r (PM [(1,0)] none (some (GK [⟨1,3,[]⟩,⟨3,0,[]⟩,⟨1,3,[]⟩] 0 1 0)) 0):=R6;refine aE true ?_;conv=>whnf
 refine Du (i:=0) (lY:=KR) (n:=0) R6 (fun h=>by cases h) (by decide) rfl rfl rfl rfl rfl fun h7 c7 R7=>?_;replace R7:RA h7 c7 r (PM [(1,0)] (some SW) (some (GK [⟨1,3,[]⟩,⟨3,0,[]⟩,⟨1,3,[]⟩] 0 1 0)) 21):=R7;conv=>whnf
 refine O0 (i:=0) (t:=1) R7 (by decide) (Kr rfl (by decide)) (Ph rfl (by decide)) rfl (by decide) rfl ?_;conv=>whnf
 refine aE true ?_;conv=>whnf
 refine Af (i:=1) (e:=0) (j':=GK [⟨1,2,[]⟩,⟨3,0,[]⟩,⟨1,3,[]⟩] 1 1 1) R7 (by decide) rfl rfl rfl fun h8 c8 R8=>?_;replace R8:RA h8 c8 r (PM [(1,0)] (some SW) (some (GK [⟨1,2,[]⟩,⟨3,0,[]⟩,⟨1,3,[]⟩] 1 1 1)) 21):=R8;conv=>whnf
 refine Af (i:=1) (e:=0) (j':=GK [⟨1,1,[]⟩,⟨3,0,[]⟩,⟨1,3,[]⟩] 2 1 2) R8 (by decide) rfl rfl rfl fun h9 c9 R9=>?_;replace R9:RA h9 c9 r (PM [(1,0)] (some SW) (some (GK [⟨1,1,[]⟩,⟨3,0,[]⟩,⟨1,3,[]⟩] 2 1 2)) 21):=R9;conv=>whnf
 refine Af (i:=1) (e:=0) (j':=GK [⟨3,0,[]⟩,⟨1,3,[]⟩] 3 1 3) R9 (by decide) rfl rfl rfl fun h10 c10 Yg=>?_;replace Yg:RA h10 c10 r (PM [(1,0)] (some SW) (some (GK [⟨3,0,[]⟩,⟨1,3,[]⟩] 3 1 3)) 21):=Yg;conv=>whnf
 refine DF (i:=1) (m:=0) (j':=GK [⟨3,0,[]⟩,⟨1,3,[]⟩] 3 0 0) Yg (by decide) (by decide) rfl (by decide) (by decide) rfl fun h11 c11 Yh=>?_;replace Yh:RA h11 c11 r (PM [] (some SW) (some (GK [⟨3,0,[]⟩,⟨1,3,[]⟩] 3 0 0)) 21):=Yh;conv=>whnf
 refine D2 (i:=1) (e:=0) (j':=GK [⟨1,3,[]⟩] 3 0 0) Yh (by decide) rfl rfl rfl fun h12 c12 Tf=>?_;replace Tf:RA h12 c12 r (PM [] (some SW) (some (GK [⟨1,3,[]⟩] 3 0 0)) 21):=Tf;conv=>whnf
 refine Fa (i:=0) Tf (by decide) (Kr rfl (by decide)) (Ph rfl (by decide)) (.inr (by decide)) ?_;conv=>whnf
 refine aE true ?_;conv=>whnf
 refine JK (i:=0) Tf (fun h=>by cases h) (by decide) (by decide) rfl ?_;conv=>whnf
 refine M6 (i:=0) Tf (by decide) (by decide) rfl fun h13 c13 Yi=>?_;replace Yi:RA h13 c13 r (PM [] none (some (GK [⟨1,3,[]⟩] 3 0 0)) 21):=Yi;conv=>whnf
 refine Gr (i:=0) (lY:=KR) (n:=21) Yi (fun h=>by cases h) (by decide) rfl rfl rfl rfl rfl fun h14 c14 R14=>?_;conv=>whnf
 refine Du (i:=0) (lY:=KR) (n:=21) R14 (fun h=>by cases h) (by decide) rfl rfl rfl rfl rfl fun h15 c15 R15=>?_;conv=>whnf
 refine an (z:=true) ?_;conv=>whnf
 subst hQ;rfl
end Ir
end Go.Proofs.YtnlcabhfkpafmaaGreat
