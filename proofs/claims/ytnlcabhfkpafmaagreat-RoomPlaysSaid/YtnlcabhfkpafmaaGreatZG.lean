/-
  Room, in plain Lean: who goes on finds free what it uses; of those that have locked something the later ones have the earlier deadlines. Room, in plain Lean: what holds between steps. Room, in plain Lean: who goes on, and what a step does. Room's laws: the tasks that they make. Room's laws: calls of a room whose answers are known. Room's laws: the chapter's example.
-/
import Derived.Test.YtnlcabhfkpafmaaGreatZF
set_option maxRecDepth 100000
set_option linter.unusedSimpArgs false
set_option linter.unusedVariables false
namespace Go.Proofs.YtnlcabhfkpafmaaGreat
open Go Ads
namespace Ir
abbrev Js:=List (Option Jb)
def ir(js:Js)(i:Nat)(j:Jb):Prop:=js[i]?=some (some j)
theorem ir.eq{js:Js}{i:Nat}{j j':Jb}(h:ir js i j)(h':ir js i j'):j=j':=by
 rw[ir] at h h';rw[h] at h';cases h'
 rfl
def ZS(js:Js)(a b:Nat):Prop:=∀j j',ir js a j→ir js b j'→ah (a,j.e) (b,j'.e)=true
def Sk(T:List Tk)(js:Js):List Nat→List En→List Nat→Prop
 |[],L,o=>L=[]∧o=[]
 |a::R,L,o=>∃L0 L1 o0,L=L0++L1∧o=o0++cond L1.isEmpty [] [a]∧(∀x∈L1,x.1=((a:Nat):Int))∧(∀x∈L0,ceil T x.2<lvl T a)∧a∉R∧(∀b∈R,ZS js a b)∧Sk T js R L0 o0
section
variable {T:List Tk} {js Ux:Js} {R:List Nat} {L:List En} {o:List Nat} {a:Nat}
theorem Sk.mem:∀{R:List Nat} {L:List En} {o:List Nat},Sk T js R L o→∀x∈L,∃a∈R,x.1=((a:Nat):Int)
 |[],L,o,h,x,hx=>by rw[h.1] at hx;simp at hx
 |a::R,L,o,⟨L0,L1,o0,h1,h2,h3,h4,h5,h6,h7⟩,x,hx=>by
  rw[h1,List.mem_append] at hx;rcases hx with hx|hx
  ·obtain⟨b,hb,e⟩:=h7.mem x hx;exact⟨b,by simp[hb],e⟩
  ·exact⟨a,by simp,h3 x hx⟩
theorem Sk.UH:∀{R:List Nat} {L:List En} {o:List Nat},Sk T js R L o→∀x∈o,x∈R
 |[],L,o,h,x,hx=>by rw[h.2] at hx;simp at hx
 |a::R,L,o,⟨L0,L1,o0,h1,h2,h3,h4,h5,h6,h7⟩,x,hx=>by
  rw[h2,List.mem_append] at hx;rcases hx with hx|hx
  ·exact List.mem_cons_of_mem _ (h7.UH x hx)
  ·cases hl:L1.isEmpty with
   |true=>rw[hl] at hx;simp at hx
   |false=>rw[hl] at hx;simp at hx;simp[hx]
theorem Sk.congr:∀{R:List Nat} {L:List En} {o:List Nat},Sk T js R L o→(∀a∈R,∀j',ir Ux a j'→∃j,ir js a j∧j.e=j'.e)→Sk T Ux R L o
 |[],L,o,h,_=>h
 |a::R,L,o,⟨L0,L1,o0,h1,h2,h3,h4,h5,h6,h7⟩,hc=>by
  refine⟨L0,L1,o0,h1,h2,h3,h4,h5,fun b hb j j' hj hj'=>?_,h7.congr fun b hb=>hc b (List.mem_cons_of_mem _ hb)⟩;obtain⟨k,k1,k2⟩:=hc a (by simp) j hj;obtain⟨l,l1,l2⟩:=hc b (List.mem_cons_of_mem _ hb) j' hj';rw[←k2,←l2];exact h6 b hb k l k1 l1
theorem sq(L M:List En)(t:Int):bz (L++M) t=bz L t++bz M t:=by rw[bz,List.filter_append,List.map_append];rfl
theorem zH{L:List En}{t:Int}(h:∀x∈L,x.1≠t):bz L t=[]:=by
 rw[bz,List.filter_eq_nil_iff.2 (fun x hx=>by simpa using h x hx)];rfl
theorem vX{L:List En}{t:Int}(h:∀x∈L,x.1=t):bz L t=L.map (·.2):=by
 rw[bz,List.filter_eq_self.2 (fun x hx=>by simpa using h x hx)]
theorem Sk.no{L0:List En}{o0:List Nat}(h:Sk T js R L0 o0)(ha:a∉R):∀x∈L0,x.1≠((a:Nat):Int):=by
 intro x hx e;obtain⟨b,hb,e2⟩:=h.mem x hx;have:a=b:=by omega
 exact ha (this▸hb)
theorem Sk.lock(h:Sk T js (a::R) L o)(x:Int):Sk T js (a::R) (L++[(((a:Nat):Int),x)]) (if bz L ((a:Nat):Int)=[] then o++[a] else o):=by
 obtain⟨L0,L1,o0,h1,h2,h3,h4,h5,h6,h7⟩:=h;have hh:bz L ((a:Nat):Int)=L1.map (·.2):=by rw[h1,sq,zH (h7.no h5),vX h3];rfl
 refine⟨L0,L1++[(((a:Nat):Int),x)],o0,by rw[h1,List.append_assoc],?_,fun y hy=>?_,h4,h5,h6,h7⟩
 ·rw[hh,h2];cases L1 with
  |nil=>simp
  |cons y l=>simp
 ·rcases List.mem_append.1 hy with hy|hy
  ·exact h3 y hy
  ·rw[List.mem_singleton.1 hy]
theorem FG{l:List Nat}{a:Nat}(h:a∉l):l.filter (fun x=>!(x==a))=l:=by
 rw[List.filter_eq_self];intro x hx;have:x≠a:=fun e=>h (e▸hx);simpa using this
theorem Sk.gone{L0 L1:List En}{o0:List Nat}(h7:Sk T js R L0 o0)(h5:a∉R)(b:Bool):(o0++cond b [] [a]).filter (fun x=>!(x==a))=o0:=by
 rw[List.filter_append,FG (fun h=>h5 (h7.UH a h))];cases b<;>simp
theorem Sk.unl(h:Sk T js (a::R) L o){n:Nat}(hn:n<L.length)(hla:dw L ((a:Nat):Int)=((n:Nat):Int)):
  Sk T js (a::R) (L.eraseIdx n) (if bz (L.eraseIdx n) ((a:Nat):Int)=[] then o.filter (fun x=>!(x==a)) else o):=by
 have hp:=sD L ((a:Nat):Int) L.length (Nat.le_refl _) n hn hla;obtain⟨L0,L1,o0,h1,h2,h3,h4,h5,h6,h7⟩:=h;subst h1;have hge:L0.length≤n:=by
  rcases Nat.lt_or_ge n L0.length with hlt|hge
  ·exfalso;rw[List.getElem_append_left hlt] at hp;exact h7.no h5 _ (List.getElem_mem hlt) (eq_of_beq hp)
  ·exact hge
 have he:(L0++L1).eraseIdx n=L0++L1.eraseIdx (n-L0.length):=List.eraseIdx_append_of_length_le hge _;have hsub:∀x∈L1.eraseIdx (n-L0.length),x.1=((a:Nat):Int):=fun x hx=>h3 x (List.eraseIdx_subset hx);have hh:bz ((L0++L1).eraseIdx n) ((a:Nat):Int)=(L1.eraseIdx (n-L0.length)).map (·.2):=by rw[he,sq,zH (h7.no h5),vX hsub];rfl
 have hne:L1.isEmpty=false:=by
  cases L1 with
  |nil=>rw[List.append_nil] at hn;omega
  |cons x l=>rfl
 refine⟨L0,L1.eraseIdx (n-L0.length),o0,he,?_,hsub,h4,h5,h6,h7⟩;rw[hh,h2];cases hM:L1.eraseIdx (n-L0.length) with
 |nil=>rw[List.map_nil,if_pos rfl,h7.gone (L1:=L1) h5];simp
 |cons x l=>rw[if_neg (by simp),hne];rfl
end
theorem MI{l:List Tk}{r:Int}{i:Nat}(hi:i<l.length)(h:uses l i r=true):lvl l i≤ceil l r:=by
 have key:∀n,i<n→lvl l i≤oY (kM l r) n:=by
  intro n;induction n with
  |zero=>intro h;omega
  |succ n ih=>
   intro hn;by_cases e:i=n
   ·subst e;rw[AS h];omega
   ·have:=ih (by omega);show _≤max _ _;omega
 exact key _ hi
theorem I9{l:List Tk}{i k:Nat}{t u:Tk}(ht:l[i]?=some t)(hu:l[k]?=some u)(h:t.d≤u.d):lvl l k≤lvl l i:=by
 have hi:=(List.getElem?_eq_some_iff.1 ht).1;have hk:=(List.getElem?_eq_some_iff.1 hu).1;rw[wu (i:=((i:Nat):Int)) ⟨by omega,by omega⟩ (by rw[Int.toNat_natCast];exact ht),wu (i:=((k:Nat):Int)) ⟨by omega,by omega⟩ (by rw[Int.toNat_natCast];exact hu)];have:above l u.d≤above l t.d:=List.countP_mono_left fun x _ hx=>by
  simp only[decide_eq_true_eq] at hx⊢;omega
 omega
theorem NI{l:List Tk}{i:Nat}(hi:i<l.length):0<lvl l i:=by
 rw[wu (i:=((i:Nat):Int)) ⟨by omega,by omega⟩ (by rw[Int.toNat_natCast];exact List.getElem?_eq_getElem hi)];omega
theorem HD{T:List Tk}{L:List En}{n:Int}(h:∀x∈L,ceil T x.2<n)(h0:0<n):iA T L<n:=by
 have key:∀(L:List En) (a:Int),a<n→(∀x∈L,ceil T x.2<n)→L.foldl (fun n x=>max n (ceil T x.2)) a<n:=by
  intro L;induction L with
  |nil=>intro a ha _;exact ha
  |cons x L ih=>
   intro a ha hL;refine ih _ ?_ (fun y hy=>hL y (by simp[hy]));have:=hL x (by simp);show max _ _<n;omega
 exact key L 0 h0 h
theorem HC{T:List Tk}{L:List En}{x:En}(h:x∈L):ceil T x.2≤iA T L:=by
 have k0:∀(L:List En) (a:Int),a≤L.foldl (fun n x=>max n (ceil T x.2)) a:=by
  intro L;induction L with
  |nil=>intro a;exact Int.le_refl _
  |cons y L ih=>intro a;exact Int.le_trans (by omega) (ih (max a (ceil T y.2)))
 have key:∀(L:List En) (a:Int),x∈L→ceil T x.2≤L.foldl (fun n x=>max n (ceil T x.2)) a:=by
  intro L;induction L with
  |nil=>intro a h;simp at h
  |cons y L ih=>
   intro a h;rcases List.mem_cons.1 h with rfl|h
   ·exact Int.le_trans (by omega) (k0 L (max a (ceil T x.2)))
   ·exact ih _ h
 exact key L 0 h
theorem m5{js:Js}{i n:Nat}{x:Option Jb}{jn:Jb}:ir (js.set i x) n jn↔(n=i∧i<js.length∧x=some jn)∨(n≠i∧ir js n jn):=by
 rw[ir,List.getElem?_set];by_cases e:i=n
 ·rw[if_pos e];by_cases hl:i<js.length
  ·rw[if_pos hl];constructor
   ·intro h;exact .inl ⟨e.symm,hl,Option.some.inj h⟩
   ·rintro(⟨_,_,h⟩|⟨h,_⟩)
    ·rw[h]
    ·exact absurd e.symm h
  ·rw[if_neg hl];constructor
   ·intro h;cases h
   ·rintro(⟨_,h,_⟩|⟨h,_⟩)
    ·exact absurd h hl
    ·exact absurd e.symm h
 ·rw[if_neg e];constructor
  ·intro h;exact .inr ⟨fun h=>e h.symm,h⟩
  ·rintro(⟨h,_⟩|⟨_,h⟩)
   ·exact absurd h.symm e
   ·exact h
def y9(js:Js)(i:Nat)(j:Jb):Prop:=ir js i j∧∀(i':Nat) (j':Jb),ir js i' j'→ah (i',j'.e) (i,j.e)=false
theorem Cs{a b:Id}(hn:a.1≠b.1)(h:ah a b=false):ah b a=true:=by
 rw[mG] at h;rw[nB];omega
structure Inv(T:List Tk)(js:Js)(L:List En)(now:Int)(R:List Nat)(o:List Nat):Prop where
 n4:T.length≤4
 jl:js.length=T.length
 tk:∀i j,ir js i j→T[i]?=some j.t
 sec:∀i j,ir js i j→j.s=0∨j.s=1
 e:∀i j,ir js i j→j.e≤now+j.t.d
 rj:∀a∈R,∃j,ir js a j
 gR:∀i j,ir js i j→j.g=true→i∈R
 nf:∀f j a ja,ir js f j→f∉R→a∈R→ir js a ja→ah (f,j.e) (a,ja.e)=true→j.t.d≤ja.t.d
 sk:Sk T js R L o
 ln:(L.length:Int)≤now
section
variable {T:List Tk} {js:Js} {L L':List En} {now:Int} {R:List Nat} {o o':List Nat} {i:Nat} {j j':Jb}
theorem Inv.lt(I:Inv T js L now R o)(h:ir js i j):i<T.length:=(List.getElem?_eq_some_iff.1 (I.tk i j h)).1
theorem Sk.head{a:Nat}{R:List Nat}(h:Sk T js (a::R) L o):∀b∈R,ZS js a b:=by
 obtain⟨L0,L1,o0,h1,h2,h3,h4,h5,h6,h7⟩:=h;exact h6
theorem Inv.HZ(I:Inv T js L now R o)(F:y9 js i j)(hi:i∈R):∃R',R=i::R':=by
 cases hR:R with
 |nil=>rw[hR] at hi;simp at hi
 |cons a R'=>
  rw[hR] at hi;rcases List.mem_cons.1 hi with rfl|hi
  ·exact⟨R',rfl⟩
  ·exfalso;have sk:=I.sk;rw[hR] at sk;obtain⟨ja,GN⟩:=I.rj a (by rw[hR];simp);have:=sk.head i hi ja j GN F.1;rw[F.2 a ja GN] at this;cases this
theorem Inv.who(I:Inv T js L now R o)(F:y9 js i j)(h:j.g=true∨lvl T i>iA T L):(∃R',R=i::R')∨(i∉R∧Inv T js L now (i::R) o):=by
 by_cases hi:i∈R
 ·exact .inl (I.HZ F hi)
 ·right;have hl:lvl T i>iA T L:=h.resolve_left fun hg=>hi (I.gR i j F.1 hg);refine⟨hi,I.n4,I.jl,I.tk,I.sec,I.e,fun a ha=>?_,fun n jn h1 h2=>List.mem_cons_of_mem _ (I.gR n jn h1 h2),fun f jf a ja h1 h2 h3 h4 h5=>?_,⟨L,[],o,by simp,by simp,by simp,fun x hx=>?_,hi,fun b hb ji jb h1 h2=>?_,I.sk⟩,I.ln⟩
  ·rcases List.mem_cons.1 ha with rfl|ha
   ·exact⟨j,F.1⟩
   ·exact I.rj a ha
  ·rcases List.mem_cons.1 h3 with rfl|h3
   ·rw[h4.eq F.1,F.2 f jf h1] at h5;cases h5
   ·exact I.nf f jf a ja h1 (fun h=>h2 (by simp[h])) h3 h4 h5
  ·have:=HC (T:=T) hx;omega
  ·rw[h1.eq F.1];exact Cs (fun e=>hi (by have e:b=i:=e;rw[←e];exact hb)) (F.2 b jb h2)
theorem Inv.top(I:Inv T js L now R o)(F:y9 js i j)(hl:¬lvl T i>iA T L):∃a R',R=a::R'∧qw L=(((a:Nat):Int),true)∧bz L ((a:Nat):Int)≠[]∧
  (i=a∨(i∉R∧¬∀x∈L,x.1=((a:Nat):Int)→ceil T x.2<lvl T i)):=by
 have hlt:=I.lt F.1;have hpos:=NI hlt;cases hR:R with
 |nil=>
  exfalso;have sk:=I.sk;rw[hR] at sk;rw[sk.1] at hl;exact hl (by show lvl T i>0;omega)
 |cons a R'=>
  have sk:=I.sk;rw[hR] at sk;obtain⟨L0,L1,o0,h1,h2,h3,h4,h5,h6,h7⟩:=sk;obtain⟨ja,GN⟩:=I.rj a (by rw[hR];simp);have GM:i=a∨(i∉R∧lvl T a≤lvl T i):=by
   by_cases e:i=a
   ·exact .inl e
   ·right;have hn:i∉R:=fun hi=>by
     obtain⟨R2,h⟩:=I.HZ F hi;rw[hR] at h;cases h
     exact e rfl
    exact⟨hn,I9 (I.tk i j F.1) (I.tk a ja GN) (I.nf i j a ja F.1 hn (by rw[hR];simp) GN (Cs (fun h=>e h.symm) (F.2 a ja GN)))⟩
  have hle:lvl T a≤lvl T i:=by
   rcases GM with rfl|h
   ·exact Int.le_refl _
   ·exact h.2
  have hno:¬∀x∈L,x.1=((a:Nat):Int)→ceil T x.2<lvl T i:=by
   intro hall;apply hl;refine HD (fun x hx=>?_) hpos;rw[h1] at hx;rcases List.mem_append.1 hx with h|h
   ·have:=h4 x h;omega
   ·exact hall x (by rw[h1];exact List.mem_append_right _ h) (h3 x h)
  have hne:L1≠[]:=by
   intro e;apply hno;intro x hx e2;rw[h1,e,List.append_nil] at hx;exact absurd e2 (h7.no h5 x hx)
  refine⟨a,R',rfl,?_,?_,?_⟩
  ·obtain⟨y,hy⟩:∃y,L1.getLast?=some y:=by
    rw[List.getLast?_eq_some_getLast hne];exact⟨_,rfl⟩
   have:L.getLast?=some y:=by rw[h1,List.getLast?_append,hy];rfl
   rw[qw,this];show(y.1,true)=_;rw[h3 y (List.mem_of_getLast? hy)]
  ·rw[h1,sq,zH (h7.no h5),vX h3];cases L1 with
   |nil=>exact absurd rfl hne
   |cons x l=>simp
  ·rcases GM with h|h
   ·exact .inl h
   ·exact .inr ⟨by rw[←hR];exact h.1,hno⟩
theorem Inv.free{a:Nat}{R':List Nat}(I:Inv T js L now (a::R') o){x u:Int}(hu:uses T a x=true)(hx:(u,x)∈L):u=((a:Nat):Int):=by
 obtain⟨ja,GN⟩:=I.rj a (by simp);obtain⟨L0,L1,o0,h1,h2,h3,h4,h5,h6,h7⟩:=I.sk;rw[h1] at hx;rcases List.mem_append.1 hx with h|h
 ·have:ceil T x<lvl T a:=h4 _ h;have:=MI (I.lt GN) hu;omega
 ·exact h3 _ h
theorem Inv.mP(I:Inv T js L now R o)(hj:ir js i j)(h1:j'.e=j.e)(h2:j'.t=j.t)(h3:j'.s=0∨j'.s=1)(h4:j'.g=true→i∈R)(hs:Sk T js R L' o')(hl:(L'.length:Int)≤now):Inv T (js.set i (some j')) L' now R o':=by
 have KH:i<js.length:=(List.getElem?_eq_some_iff.1 hj).1;have old:∀{n jn},ir (js.set i (some j')) n jn→∃k,ir js n k∧k.e=jn.e∧k.t=jn.t∧(jn=j'∧n=i∨jn=k):=fun h=>by
  rcases m5.1 h with⟨a,_,b⟩|⟨_,h⟩
  ·cases b
   subst a;exact⟨j,hj,h1.symm,h2.symm,.inl ⟨rfl,rfl⟩⟩
  ·exact⟨_,h,rfl,rfl,.inr rfl⟩
 refine⟨I.n4,by rw[List.length_set];exact I.jl,fun n jn h=>?_,fun n jn h=>?_,fun n jn h=>?_,fun a ha=>?_,fun n jn h hg=>?_,fun f jf a ja b1 b2 b3 b4 b5=>?_,hs.congr fun a ha ja h=>?_,hl⟩
 ·obtain⟨k,k1,k2,k3,k4⟩:=old h;rw[←k3];exact I.tk n k k1
 ·obtain⟨k,k1,k2,k3,k4⟩:=old h;rcases k4 with⟨rfl,_⟩|rfl
  ·exact h3
  ·exact I.sec n _ k1
 ·obtain⟨k,k1,k2,k3,k4⟩:=old h;rw[←k2,←k3];exact I.e n k k1
 ·obtain⟨ja,GN⟩:=I.rj a ha;by_cases e:a=i
  ·exact⟨j',m5.2 (.inl ⟨e,KH,rfl⟩)⟩
  ·exact⟨ja,m5.2 (.inr ⟨e,GN⟩)⟩
 ·obtain⟨k,k1,k2,k3,k4⟩:=old h;rcases k4 with⟨rfl,rfl⟩|rfl
  ·exact h4 hg
  ·exact I.gR n _ k1 hg
 ·obtain⟨k,k1,k2,k3,k4⟩:=old b1;obtain⟨l,l1,l2,l3,l4⟩:=old b4;rw[←k3,←l3];rw[←k2,←l2] at b5;exact I.nf f k a l k1 b2 b3 l1 b5
 ·obtain⟨k,k1,k2,_⟩:=old h;exact⟨k,k1,k2⟩
end
def JE(js Ux:Js):Prop:=(∀i j',ir Ux i j'→∃j,ir js i j∧j.e=j'.e)∧∀i j,ir js i j→∃j',ir Ux i j'∧j'.e=j.e
theorem JE.refl(js:Js):JE js js:=⟨fun i j h=>⟨j,h,rfl⟩,fun i j h=>⟨j,h,rfl⟩⟩
theorem JE.set{js:Js}{i:Nat}{j j':Jb}(h:ir js i j)(he:j'.e=j.e):JE js (js.set i (some j')):=by
 have hl:i<js.length:=(List.getElem?_eq_some_iff.1 h).1;refine⟨fun n jn hn=>?_,fun n jn hn=>?_⟩
 ·rcases m5.1 hn with⟨rfl,_,e⟩|⟨_,h'⟩
  ·cases e
   exact⟨j,h,he.symm⟩
  ·exact⟨jn,h',rfl⟩
 ·by_cases e:n=i
  ·subst e;rw[hn.eq h];exact⟨j',m5.2 (.inl ⟨rfl,hl,rfl⟩),he⟩
  ·exact⟨jn,m5.2 (.inr ⟨e,hn⟩),rfl⟩
def dD(T:List Tk)(js:Js)(L:List En)(R:List Nat)(a:Nat):Prop:=∀t jt ja,ir js t jt→ir js a ja→t∉R→ah (t,jt.e) (a,ja.e)=true→
 ∃f jf,ir js f jf∧f∉R∧(f=t∨ah (f,jf.e) (t,jt.e)=true)∧¬∀x∈L,x.1=((a:Nat):Int)→ceil T x.2<lvl T f
section
variable {T:List Tk} {js:Js} {L L':List En} {now:Int} {R:List Nat} {o o':List Nat} {i:Nat} {j:Jb}
end
theorem Hz{i n:Int}(h:0<n):0≤r6 i n∧r6 i n<n:=⟨Int.emod_nonneg _ (by omega),Int.emod_lt_of_pos _ h⟩
section
variable {h:Heap} {col:Nat→Nat} {r:Nat} {st:St} {Q:AV→Heap→Prop} {i:Nat} {j:Jb} {l7:Tk} {l:List Op} {kk:Nat} {now n:Int}
theorem Ac(R:RA h col r st)(hk:kk=3→l=[])(hl:l.length≤1000)(h0:cz st.T i≠0→Q (.int .i64 (cz st.T i)) h)
  (h1:∀(i':Nat) (j:Jb),((i:Nat):Int)=((i':Nat):Int)→st.j[i']?=some (some j)→Q (.int .i64 141) h)
  (h2:∀(i':Nat) (tk:Tk),((i:Nat):Int)=((i':Nat):Int)→st.T[i']?=some tk→st.j[i']?=some none→fU tk l now≠0→∀h' aC,RA h' aC r st→Kc h h' col aC vp→Q (.int .i64 (fU tk l now)) h')
  (h3:∀(i':Nat) (tk:Tk) (n:Int),((i:Nat):Int)=((i':Nat):Int)→st.T[i']?=some tk→st.j[i']?=some none→fU tk l now=0→st.g[i']?=some n→kA n now≠0→∀h' aC,RA h' aC r st→Kc h h' col aC vp→Q (.int .i64 (kA n now)) h')
  (h4:∀(i':Nat) (tk:Tk) (n:Int),((i:Nat):Int)=((i':Nat):Int)→st.T[i']?=some tk→st.j[i']?=some none→fU tk l now=0→st.g[i']?=some n→kA n now=0→∀h' aC,RA h' aC r {st with j:=st.j.set i' (some (jG tk l now)),g:=st.g.set i' (zx tk.p n now)}→Kc h h' col aC vp→Q (.int .i64 0) h'):
  VD fs ms 28 [.ptr r 0,.int .i64 ((i:Nat):Int),.fz kk (ops l),.int .i64 now] h Q:=
 EU R (bs:=[]) (by simp) (fun t0 Q a b=>I1 hk (by omega) a b) h0 h1 h2 h3 h4
theorem Ct(hi:i<st.T.length):cz st.T i=0:=by rw[cz,decide_eq_false (by omega),decide_eq_false (by omega)];rfl
theorem Dt(R:RA h col r st)(hk:kk=3→l=[])(hl:l.length≤1000)(ht:st.T[i]?=some l7)(hj:st.j[i]?=some none)(hg:st.g[i]?=some n)(hz:fU l7 l now=0)(ha:kA n now=0)
  (hQ:∀h' aC,RA h' aC r {st with j:=st.j.set i (some (jG l7 l now)),g:=st.g.set i (zx l7.p n now)}→Q (.int .i64 0) h'):VD fs ms 28 [.ptr r 0,.int .i64 ((i:Nat):Int),.fz kk (ops l),.int .i64 now] h Q:=by
 refine Ac R hk hl (fun h=>(h (Ct (List.getElem?_eq_some_iff.1 ht).1)).elim) (fun i' j' hi' hj'=>?_) (fun i' t' hi' ht' _ hn=>?_) (fun i' t' n' hi' ht' _ _ hg' hn=>?_) (fun i' t' n' hi' ht' hj' _ hg' _ h' aC R' _=>?_);all_goals obtain rfl:i=i':=by omega
 ·rw[hj] at hj';cases hj'
 ·rw[ht] at ht';cases ht';exact absurd hz hn
 ·rw[hg] at hg';cases hg';exact absurd ha hn
 ·rw[ht] at ht';cases ht';rw[hg] at hg';cases hg';exact hQ h' aC R'
theorem JI(R:RA h col r st)(hk:kk=3→l=[])(hl:l.length≤1000)(hi:i<st.T.length)(hj:st.j[i]?=some (some j))(hQ:Q (.int .i64 141) h):VD fs ms 28 [.ptr r 0,.int .i64 ((i:Nat):Int),.fz kk (ops l),.int .i64 now] h Q:=by
 refine Ac R hk hl (fun h=>(h (Ct hi)).elim) (fun i' j' hi' hj'=>hQ) (fun i' t' hi' ht' hj' hn=>?_) (fun i' t' n' hi' ht' hj' _ hg' hn=>?_) (fun i' t' n' hi' ht' hj' _ hg' _ h' aC R' _=>?_);all_goals (obtain rfl:i=i':=by omega);rw[hj] at hj';cases hj'
theorem Gr(R:RA h col r st)(hk:kk=3→l=[])(hl:l.length≤1000)(ht:st.T[i]?=some l7)(hj:st.j[i]?=some none)(hg:st.g[i]?=some n)(hz:fU l7 l now=0)(ha:kA n now=140)
  (hQ:∀h' aC,RA h' aC r st→Q (.int .i64 140) h'):VD fs ms 28 [.ptr r 0,.int .i64 ((i:Nat):Int),.fz kk (ops l),.int .i64 now] h Q:=by
 refine Ac R hk hl (fun h=>(h (Ct (List.getElem?_eq_some_iff.1 ht).1)).elim) (fun i' j' hi' hj'=>?_) (fun i' t' hi' ht' _ hn=>?_) (fun i' t' n' hi' ht' _ _ hg' hn h' aC R' _=>?_) (fun i' t' n' hi' ht' hj' _ hg' hn h' aC R' _=>?_);all_goals obtain rfl:i=i':=by omega
 ·rw[hj] at hj';cases hj'
 ·rw[ht] at ht';cases ht';exact absurd hz hn
 ·rw[hg] at hg';cases hg';rw[ha];exact hQ h' aC R'
 ·rw[hg] at hg';cases hg';rw[ha] at hn;cases hn
theorem Af{e:Int}{j':Jb}(R:RA h col r st)(hi:i<st.T.length)(hj:st.j[i]?=some (some j))(he:mu j=e)(hj':nQ j=j')(hQ:∀h' aC,RA h' aC r {st with j:=st.j.set i (some j')}→Q (.int .i64 e) h'):VD fs ms 21 [.ptr r 0,.int .i64 ((i:Nat):Int)] h Q:=by
 subst he;subst hj';refine EV R (fun h=>(h (gO hi hj)).elim) (fun i' j' hi' hj' h' aC R' _=>?_);obtain rfl:i=i':=by omega
 rw[hj] at hj';cases hj';exact hQ h' aC R'
theorem D2{e:Int}{j':Jb}(R:RA h col r st)(hi:i<st.T.length)(hj:st.j[i]?=some (some j))(he:ur j=e)(hj':v8 j=j')(hQ:∀h' aC,RA h' aC r {st with j:=st.j.set i (some j')}→Q (.int .i64 e) h'):VD fs ms 20 [.ptr r 0,.int .i64 ((i:Nat):Int)] h Q:=by
 subst he;subst hj';refine ES R (fun h=>(h (gO hi hj)).elim) (fun i' j' hi' hj' h' aC R' _=>?_);obtain rfl:i=i':=by omega
 rw[hj] at hj';cases hj';exact hQ h' aC R'
theorem I8{x:Int}{j':Jb}(R:RA h col r st)(hL:st.L.length≤900)(hi:i<st.T.length)(hj:st.j[i]?=some (some j))(hs:j.s<2)(hz:fm st.T st.L i x=0)(hj':yE j=j')(hQ:∀h' aC,RA h' aC r {st with L:=st.L++[(((i:Nat):Int),x)],j:=st.j.set i (some j')}→Q (.int .i64 0) h'):
  VD fs ms 22 [.ptr r 0,.int .i64 ((i:Nat):Int),.int .i64 x] h Q:=by
 subst hj';refine B0 R hL (fun h=>(h (gO hi hj)).elim) (fun i' j' hi' hj' hs'=>?_) (fun i' j' hi' hj' _ hn=>(hn hz).elim) (fun i' j' hi' hj' _ _ h' aC R' _=>?_);all_goals (obtain rfl:i=i':=by omega);rw[hj] at hj';cases hj'
 ·omega
 ·exact hQ h' aC R'
theorem DE{m:Nat}{j':Jb}(R:RA h col r st)(hL:st.L.length≤900)(hi:i<st.T.length)(hj:st.j[i]?=some (some j))(hz:iV st.T st.L i=0)(hm:dw st.L i=((m:Nat):Int))(hj':uQ (st.L.eraseIdx m) i j=j')
  (hQ:∀h' aC,RA h' aC r {st with L:=st.L.eraseIdx m,j:=st.j.set i (some j')}→Q (.int .i64 0) h'):VD fs ms 23 [.ptr r 0,.int .i64 ((i:Nat):Int)] h Q:=by
 subst hj';refine wQ R hL (fun h=>(h (gO hi hj)).elim) (fun i' j' hi' hj' hn=>(hn hz).elim) (fun i' j' hi' hj' _ m' _ hm' h' aC R' _=>?_);obtain rfl:i=i':=by omega
 obtain rfl:m=m':=by omega
 rw[hj] at hj';cases hj';exact hQ h' aC R'
theorem M4(R:RA h col r st)(hL:st.L.length≤900)(hi:i<st.T.length)(hj:st.j[i]?=some (some j))(hQ:∀h' aC,RA h' aC r {st with L:=jH st.L i,j:=st.j.set i none}→Q (.bool true) h'):VD fs ms 27 [.ptr r 0,.int .i64 ((i:Nat):Int)] h Q:=by
 refine ET R hL (fun h=>(h (gO hi hj)).elim) (fun i' j' hi' hj' h' aC R' _=>?_);obtain rfl:i=i':=by omega
 exact hQ h' aC R'
theorem vM{js:Js}{i i':Nat}{j j':Jb}(F:y9 js i j)(F':y9 js i' j'):i=i':=by
 by_cases e:i=i'
 ·exact e
 ·have:=Cs (a:=(i',j'.e)) (b:=(i,j.e)) (fun h=>e h.symm) (F.2 i' j' F'.1);rw[F'.2 i j F.1] at this;cases this
theorem Fa(R:RA h col r st)(hL:st.L.length≤900)(hs:∀(i:Nat) (j:Jb),st.j[i]?=some (some j)→j.s<2)(F:y9 st.j i j)(hc:j.g=true∨lvl st.T i>iA st.T st.L)(hQ:Q (.bool true) h):VD fs ms 31 [.ptr r 0,.int .i64 ((i:Nat):Int)] h Q:=by
 refine ak (af:=S9) true rfl (Nat.le_of_ble_eq_true rfl) ?_;conv=>whnf
 refine Ad R hL (fun i' j' hj' h2=>?_) (fun hno=>(hno i j F.1).elim) (fun _ i' j' F' _=>?_) (fun _ i' j' F' hg hl=>?_)
 ·have:=hs i' j' hj';omega
 ·obtain rfl:=vM F F';conv=>whnf
  refine qt (by simp) (fun hc=>?_)
  (try rw[hc])
  conv=>whnf
  exact hQ
 ·obtain rfl:=vM F F';obtain rfl:j=j':=ir.eq F.1 F'.1;rcases hc with h|h
  ·rw[h] at hg;cases hg
  ·exact(hl h).elim
theorem OY{t:Nat}(R:RA h col r st)(hL:st.L.length≤900)(hs:∀(i:Nat) (j:Jb),st.j[i]?=some (some j)→j.s<2)(F:y9 st.j i j)(hc:j.g=false)(Bd:¬lvl st.T i>iA st.T st.L)(ht:qw st.L=(((t:Nat):Int),true))(hQ:Q (.bool true) h):VD fs ms 31 [.ptr r 0,.int .i64 ((t:Nat):Int)] h Q:=by
 refine ak (af:=S9) true rfl (Nat.le_of_ble_eq_true rfl) ?_;conv=>whnf
 refine Ad R hL (fun i' j' hj' h2=>?_) (fun hno=>(hno i j F.1).elim) (fun _ i' j' F' h=>?_) (fun _ i' j' F' hg hl=>?_)
 ·have:=hs i' j' hj';omega
 ·obtain rfl:=vM F F';obtain rfl:j=j':=ir.eq F.1 F'.1;rcases h with h|h
  ·rw[h] at hc;cases hc
  ·exact(Bd h).elim
 ·rw[ht];conv=>whnf
  refine qt (by simp) (fun hc=>?_)
  (try rw[hc])
  conv=>whnf
  exact hQ
end
def KP:Tk:=⟨20,10,4,1,1,0,0,0⟩
def PM:Tk:=⟨30,20,6,1,3,0,0,0⟩
def w9:List Op:=[⟨2,0,[]⟩,⟨1,3,[]⟩,⟨3,0,[]⟩,⟨1,3,[]⟩]
def DH:List Op:=[⟨1,2,[]⟩]
theorem zv{h H:Heap}{b:Nat}(f:Fr h H [])(hb:h.next≤b):Fr h (fh [b] H) []:=by
 refine⟨f.next,fun c hc _=>?_⟩;show(H.del b).get c=_;rw[ep (by omega)];exact f.keep c hc (by simp)
theorem D6{h:Heap}{s:Nat}{l:List AV}{vs:List AV}(hs:aO s l=true)(hc:cD l=true)(hv:vs=aa l):ny (· ∈[h.next]) (h.new (.cells vs true 0)) (.sl h.next 0 l.length l.length false) (.fz 0 l):=
 pZ (by simp) aj (by rw[hv,List.append_nil]) hs rfl (Nat.le_refl _) hc
theorem Ao{js:Js}{a b:Option Jb}(e:js=[a,b])(i:Nat)(j:Jb)(h:js[i]?=some (some j)):(i=0∧a=some j)∨(i=1∧b=some j):=by
 subst e
 match i,h with
 |0,h=>exact .inl ⟨rfl,Option.some.inj h⟩
 |1,h=>exact .inr ⟨rfl,Option.some.inj h⟩
 |n+2,h=>cases h
theorem Kq{js:Js}{a b:Option Jb}(e:js=[a,b])(h:(a.map Jb.s).getD 0<2∧(b.map Jb.s).getD 0<2)(i:Nat)(j:Jb)(hj:js[i]?=some (some j)):j.s<2:=by
 rcases Ao e i j hj with⟨_,rfl⟩|⟨_,rfl⟩
 ·exact h.1
 ·exact h.2
theorem Pf{js:Js}{a:Jb}{b:Option Jb}(e:js=[some a,b])(h:ah (0,a.e) (0,a.e)=false∧ah (1,(b.map Jb.e).getD 0) (0,a.e)=false):y9 js 0 a:=by
 refine⟨by rw[e];rfl,fun i j hj=>?_⟩;rcases Ao e i j hj with⟨rfl,h1⟩|⟨rfl,rfl⟩
 ·cases h1;exact h.1
 ·exact h.2
theorem TB{js:Js}{b:Jb}(e:js=[none,some b])(h:ah (1,b.e) (1,b.e)=false):y9 js 1 b:=by
 refine⟨by rw[e];rfl,fun i j hj=>?_⟩;rcases Ao e i j hj with⟨rfl,h1⟩|⟨rfl,h1⟩
 ·cases h1
 ·cases h1;exact h
def wS0:St:=⟨[KP,PM],[],[none,none],[0,0]⟩
def GJ(l:List Op)(n s k:Int):Jb:=⟨PM,l,20,n,s,k,0,true⟩
def SY:Jb:=⟨KP,DH,11,0,0,0,0,false⟩
def PL(L:List En)(a b:Option Jb)(g:Int):St:=⟨[KP,PM],L,[a,b],[g,30]⟩
theorem y7:PC fs ms 7 [] (.bool true):=by
 refine cr rfl rfl ?_;refine bY (af:=C7) rfl (Nat.le_of_ble_eq_true rfl) ?_;generalize hQ:(fun(v:AV) (_:Heap)=>v=.bool true)=Q;conv=>whnf
 refine aF true ?_;conv=>whnf
 refine aF true ?_;conv=>whnf
 refine aH 3 [(1,.sl 0 0 2 2 false)] ⟨rfl,trivial⟩ (pL [0] (i:=1) (v':=.fz 0 (eP [KP,PM])) rfl (D6 (h:=⟨0,.nil⟩) (s:=8) (l:=eP [KP,PM]) rfl rfl rfl) ?_);refine aH 3 [(1,.fz 0 (eP [KP,PM]))] ⟨rfl,trivial⟩ ?_;generalize fh [0] _=h1;refine aF true ?_;conv=>whnf
 refine Ab (col:=fun _=>0) 0 [KP,PM] (fun h=>by cases h) (by decide) (fun hn=>(hn (by decide)).elim) (fun _ h2 iT r R0 _=>?_);conv=>whnf
 refine bu (aq (z:=true) ?_);conv=>whnf
 refine aF true ?_;conv=>whnf
 refine aF true ?_;conv=>whnf
 have R0:RA h2 iT r wS0:=R0;have lq:Fr h2 ((h2.new (.cells (aa (ops w9)) true 0)).new (.cells (aa (ops DH)) true 0)) []:=(Fr.refl h2 []).new.new;have R1:=R0.nil (zv (b:=h2.next) (zv (b:=h2.next+1) lq (Nat.le_succ _)) (Nat.le_refl _));have gA:(fh [h2.next+1] ((h2.new (.cells (aa (ops w9)) true 0)).new (.cells (aa (ops DH)) true 0))).get h2.next=some (.cells (aa (ops w9)) true 0):=by
  show(Heap.del _ _).get _=_;rw[ep (by omega),aA (Nat.lt_succ_self _)];exact aj
 show VC fs ms _ _ _ _ ((h2.new (.cells (aa (ops w9)) true 0)).new (.cells (aa (ops DH)) true 0)) _;refine aH 3 [(2,.ptr r 0),(4,.sl h2.next 0 4 4 false),(5,.sl (h2.next+1) 0 1 1 false)] ⟨rfl,rfl,rfl,trivial⟩ ?_;refine pL [h2.next+1] (i:=5) (v':=.fz 0 (ops DH)) rfl (D6 (h:=h2.new (.cells (aa (ops w9)) true 0)) (s:=3) (l:=ops DH) rfl rfl rfl) ?_;refine pL [h2.next] (i:=4) (v':=.fz 0 (ops w9)) rfl (pZ (s:=3) (rest:=[]) (by simp) gA rfl rfl rfl (Nat.le_refl _) rfl) ?_;refine aH 3 [(2,.ptr r 0),(4,.fz 0 (ops w9)),(5,.fz 0 (ops DH))] ⟨rfl,rfl,rfl,trivial⟩ ?_;generalize fh [h2.next] _=h3 at*;refine aF true ?_;conv=>whnf
 refine Dt (i:=1) (l7:=PM) (n:=0) R1 (fun h=>by cases h) (by decide) rfl rfl rfl rfl rfl fun h4 c4 R4=>?_;conv=>whnf
 refine Fa (i:=1) R4 (by decide) (Kq rfl (by decide)) (TB rfl (by decide)) (.inr (by decide)) ?_;conv=>whnf
 refine I8 (i:=1) R4 (by decide) (by decide) rfl (by decide) (by decide) rfl fun h5 c5 R5=>?_;conv=>whnf
 refine D2 (i:=1) (e:=0) R5 (by decide) rfl rfl rfl fun h6 c6 R6=>?_;conv=>whnf
 replace R6:RA h6 c6 r (PL [(1,0)] none (some (GJ [⟨1,3,[]⟩,⟨3,0,[]⟩,⟨1,3,[]⟩] 0 1 0)) 0):=R6;refine aF true ?_;conv=>whnf
 refine Dt (i:=0) (l7:=KP) (n:=0) R6 (fun h=>by cases h) (by decide) rfl rfl rfl rfl rfl fun h7 c7 R7=>?_;replace R7:RA h7 c7 r (PL [(1,0)] (some SY) (some (GJ [⟨1,3,[]⟩,⟨3,0,[]⟩,⟨1,3,[]⟩] 0 1 0)) 21):=R7;conv=>whnf
 refine OY (i:=0) (t:=1) R7 (by decide) (Kq rfl (by decide)) (Pf rfl (by decide)) rfl (by decide) rfl ?_;conv=>whnf
 refine aF true ?_;conv=>whnf
 refine Af (i:=1) (e:=0) (j':=GJ [⟨1,2,[]⟩,⟨3,0,[]⟩,⟨1,3,[]⟩] 1 1 1) R7 (by decide) rfl rfl rfl fun h8 c8 R8=>?_;replace R8:RA h8 c8 r (PL [(1,0)] (some SY) (some (GJ [⟨1,2,[]⟩,⟨3,0,[]⟩,⟨1,3,[]⟩] 1 1 1)) 21):=R8;conv=>whnf
 refine Af (i:=1) (e:=0) (j':=GJ [⟨1,1,[]⟩,⟨3,0,[]⟩,⟨1,3,[]⟩] 2 1 2) R8 (by decide) rfl rfl rfl fun h9 c9 R9=>?_;replace R9:RA h9 c9 r (PL [(1,0)] (some SY) (some (GJ [⟨1,1,[]⟩,⟨3,0,[]⟩,⟨1,3,[]⟩] 2 1 2)) 21):=R9;conv=>whnf
 refine Af (i:=1) (e:=0) (j':=GJ [⟨3,0,[]⟩,⟨1,3,[]⟩] 3 1 3) R9 (by decide) rfl rfl rfl fun h10 c10 Yi=>?_;replace Yi:RA h10 c10 r (PL [(1,0)] (some SY) (some (GJ [⟨3,0,[]⟩,⟨1,3,[]⟩] 3 1 3)) 21):=Yi;conv=>whnf
 refine DE (i:=1) (m:=0) (j':=GJ [⟨3,0,[]⟩,⟨1,3,[]⟩] 3 0 0) Yi (by decide) (by decide) rfl (by decide) (by decide) rfl fun h11 c11 Yj=>?_;replace Yj:RA h11 c11 r (PL [] (some SY) (some (GJ [⟨3,0,[]⟩,⟨1,3,[]⟩] 3 0 0)) 21):=Yj;conv=>whnf
 refine D2 (i:=1) (e:=0) (j':=GJ [⟨1,3,[]⟩] 3 0 0) Yj (by decide) rfl rfl rfl fun h12 c12 Th=>?_;replace Th:RA h12 c12 r (PL [] (some SY) (some (GJ [⟨1,3,[]⟩] 3 0 0)) 21):=Th;conv=>whnf
 refine Fa (i:=0) Th (by decide) (Kq rfl (by decide)) (Pf rfl (by decide)) (.inr (by decide)) ?_;conv=>whnf
 refine aF true ?_;conv=>whnf
 refine JI (i:=0) Th (fun h=>by cases h) (by decide) (by decide) rfl ?_;conv=>whnf
 refine M4 (i:=0) Th (by decide) (by decide) rfl fun h13 c13 Yk=>?_;replace Yk:RA h13 c13 r (PL [] none (some (GJ [⟨1,3,[]⟩] 3 0 0)) 21):=Yk;conv=>whnf
 refine Gr (i:=0) (l7:=KP) (n:=21) Yk (fun h=>by cases h) (by decide) rfl rfl rfl rfl rfl fun h14 c14 R14=>?_;conv=>whnf
 refine Dt (i:=0) (l7:=KP) (n:=21) R14 (fun h=>by cases h) (by decide) rfl rfl rfl rfl rfl fun h15 c15 R15=>?_;conv=>whnf
 refine aq (z:=true) ?_;conv=>whnf
 subst hQ;rfl
end Ir
end Go.Proofs.YtnlcabhfkpafmaaGreat
