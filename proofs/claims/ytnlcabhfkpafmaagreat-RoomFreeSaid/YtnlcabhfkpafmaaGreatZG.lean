/-
  Room, in plain Lean: who goes on finds free what it uses; of those that have locked something the later ones have the earlier deadlines. Room, in plain Lean: what holds between steps. Room, in plain Lean: who goes on, and what a step does. Room's laws: the tasks that they make. Room's laws: calls of a room whose answers are known. Room's laws: the chapter's example. Room's laws: a play in a heap; gone, held, noRun. Room's laws: gone, held. Room's laws: a step of a play. RoomFree.
-/
import Derived.Test.YtnlcabhfkpafmaaGreatZF
set_option maxRecDepth 100000
set_option linter.unusedSimpArgs false
set_option linter.unusedVariables false
namespace Go.Proofs.YtnlcabhfkpafmaaGreat
open Go Ads
namespace Ir
abbrev Js:=List (Option Jb)
def bC(js:Js)(i:Nat)(j:Jb):Prop:=js[i]?=some (some j)
theorem bC.eq{js:Js}{i:Nat}{j j':Jb}(h:bC js i j)(h':bC js i j'):j=j':=by
 rw[bC] at h h';rw[h] at h';cases h'
 rfl
def XM(js:Js)(a b:Nat):Prop:=∀j j',bC js a j→bC js b j'→ah (a,j.e) (b,j'.e)=true
def Sk(T:List Tk)(js:Js):List Nat→List En→List Nat→Prop
 |[],L,o=>L=[]∧o=[]
 |a::R,L,o=>∃L0 L1 o0,L=L0++L1∧o=o0++cond L1.isEmpty [] [a]∧(∀x∈L1,x.1=((a:Nat):Int))∧(∀x∈L0,ceil T x.2<lvl T a)∧a∉R∧(∀b∈R,XM js a b)∧Sk T js R L0 o0
section
variable {T:List Tk} {js tC:Js} {R:List Nat} {L:List En} {o:List Nat} {a:Nat}
theorem Sk.mem:∀{R:List Nat} {L:List En} {o:List Nat},Sk T js R L o→∀x∈L,∃a∈R,x.1=((a:Nat):Int)
 |[],L,o,h,x,hx=>by rw[h.1] at hx;simp at hx
 |a::R,L,o,⟨L0,L1,o0,h1,h2,h3,h4,h5,h6,h7⟩,x,hx=>by
  rw[h1,List.mem_append] at hx;rcases hx with hx|hx
  ·obtain⟨b,hb,e⟩:=h7.mem x hx;exact⟨b,by simp[hb],e⟩
  ·exact⟨a,by simp,h3 x hx⟩
theorem Sk.DE:∀{R:List Nat} {L:List En} {o:List Nat},Sk T js R L o→∀x∈o,x∈R
 |[],L,o,h,x,hx=>by rw[h.2] at hx;simp at hx
 |a::R,L,o,⟨L0,L1,o0,h1,h2,h3,h4,h5,h6,h7⟩,x,hx=>by
  rw[h2,List.mem_append] at hx;rcases hx with hx|hx
  ·exact List.mem_cons_of_mem _ (h7.DE x hx)
  ·cases hl:L1.isEmpty with
   |true=>rw[hl] at hx;simp at hx
   |false=>rw[hl] at hx;simp at hx;simp[hx]
theorem Sk.congr:∀{R:List Nat} {L:List En} {o:List Nat},Sk T js R L o→(∀a∈R,∀j',bC tC a j'→∃j,bC js a j∧j.e=j'.e)→Sk T tC R L o
 |[],L,o,h,_=>h
 |a::R,L,o,⟨L0,L1,o0,h1,h2,h3,h4,h5,h6,h7⟩,hc=>by
  refine⟨L0,L1,o0,h1,h2,h3,h4,h5,fun b hb j j' hj hj'=>?_,h7.congr fun b hb=>hc b (List.mem_cons_of_mem _ hb)⟩;obtain⟨k,k1,k2⟩:=hc a (by simp) j hj;obtain⟨l,l1,l2⟩:=hc b (List.mem_cons_of_mem _ hb) j' hj';rw[←k2,←l2];exact h6 b hb k l k1 l1
theorem pK(L M:List En)(t:Int):aU (L++M) t=aU L t++aU M t:=by rw[aU,List.filter_append,List.map_append];rfl
theorem Aa{L:List En}{t:Int}(h:∀x∈L,x.1≠t):aU L t=[]:=by
 rw[aU,List.filter_eq_nil_iff.2 (fun x hx=>by simpa using h x hx)];rfl
theorem pJ{L:List En}{t:Int}(h:∀x∈L,x.1=t):aU L t=L.map (·.2):=by
 rw[aU,List.filter_eq_self.2 (fun x hx=>by simpa using h x hx)]
theorem IG(L M:List En)(t:Int):iB (L++M) t=iB L t++iB M t:=List.filter_append ..
theorem Sk.no{L0:List En}{o0:List Nat}(h:Sk T js R L0 o0)(ha:a∉R):∀x∈L0,x.1≠((a:Nat):Int):=by
 intro x hx e;obtain⟨b,hb,e2⟩:=h.mem x hx;have:a=b:=by omega
 exact ha (this▸hb)
theorem Sk.lock(h:Sk T js (a::R) L o)(x:Int):Sk T js (a::R) (L++[(((a:Nat):Int),x)]) (if aU L ((a:Nat):Int)=[] then o++[a] else o):=by
 obtain⟨L0,L1,o0,h1,h2,h3,h4,h5,h6,h7⟩:=h;have hh:aU L ((a:Nat):Int)=L1.map (·.2):=by rw[h1,pK,Aa (h7.no h5),pJ h3];rfl
 refine⟨L0,L1++[(((a:Nat):Int),x)],o0,by rw[h1,List.append_assoc],?_,fun y hy=>?_,h4,h5,h6,h7⟩
 ·rw[hh,h2];cases L1 with
  |nil=>simp
  |cons y l=>simp
 ·rcases List.mem_append.1 hy with hy|hy
  ·exact h3 y hy
  ·rw[List.mem_singleton.1 hy]
theorem Gp{l:List Nat}{a:Nat}(h:a∉l):l.filter (fun x=>!(x==a))=l:=by
 rw[List.filter_eq_self];intro x hx;have:x≠a:=fun e=>h (e▸hx);simpa using this
theorem Sk.gone{L0 L1:List En}{o0:List Nat}(h7:Sk T js R L0 o0)(h5:a∉R)(b:Bool):(o0++cond b [] [a]).filter (fun x=>!(x==a))=o0:=by
 rw[List.filter_append,Gp (fun h=>h5 (h7.DE a h))];cases b<;>simp
theorem Sk.end'(h:Sk T js (a::R) L o):Sk T js R (iB L ((a:Nat):Int)) (o.filter fun x=>!(x==a)):=by
 obtain⟨L0,L1,o0,h1,h2,h3,h4,h5,h6,h7⟩:=h;have d0:iB L0 ((a:Nat):Int)=L0:=List.filter_eq_self.2 (fun x hx=>by simpa using h7.no h5 x hx);have d1:iB L1 ((a:Nat):Int)=[]:=List.filter_eq_nil_iff.2 (fun x hx=>by simpa using h3 x hx);rw[h1,IG,d0,d1,List.append_nil,h2,h7.gone (L1:=L1) h5];exact h7
theorem Sk.unl(h:Sk T js (a::R) L o){n:Nat}(hn:n<L.length)(hla:ej L ((a:Nat):Int)=((n:Nat):Int)):
  Sk T js (a::R) (L.eraseIdx n) (if aU (L.eraseIdx n) ((a:Nat):Int)=[] then o.filter (fun x=>!(x==a)) else o):=by
 have hp:=wq L ((a:Nat):Int) L.length (Nat.le_refl _) n hn hla;obtain⟨L0,L1,o0,h1,h2,h3,h4,h5,h6,h7⟩:=h;subst h1;have hge:L0.length≤n:=by
  rcases Nat.lt_or_ge n L0.length with hlt|hge
  ·exfalso;rw[List.getElem_append_left hlt] at hp;exact h7.no h5 _ (List.getElem_mem hlt) (eq_of_beq hp)
  ·exact hge
 have he:(L0++L1).eraseIdx n=L0++L1.eraseIdx (n-L0.length):=List.eraseIdx_append_of_length_le hge _;have hsub:∀x∈L1.eraseIdx (n-L0.length),x.1=((a:Nat):Int):=fun x hx=>h3 x (List.eraseIdx_subset hx);have hh:aU ((L0++L1).eraseIdx n) ((a:Nat):Int)=(L1.eraseIdx (n-L0.length)).map (·.2):=by rw[he,pK,Aa (h7.no h5),pJ hsub];rfl
 have hne:L1.isEmpty=false:=by
  cases L1 with
  |nil=>rw[List.append_nil] at hn;omega
  |cons x l=>rfl
 refine⟨L0,L1.eraseIdx (n-L0.length),o0,he,?_,hsub,h4,h5,h6,h7⟩;rw[hh,h2];cases hM:L1.eraseIdx (n-L0.length) with
 |nil=>rw[List.map_nil,if_pos rfl,h7.gone (L1:=L1) h5];simp
 |cons x l=>rw[if_neg (by simp),hne];rfl
theorem Sk.ord:∀{R:List Nat} {L:List En} {o:List Nat},Sk T js R L o→o.Pairwise fun x y=>XM js y x
 |[],L,o,h=>by rw[h.2];exact .nil
 |a::R,L,o,⟨L0,L1,o0,h1,h2,h3,h4,h5,h6,h7⟩=>by
  rw[h2,List.pairwise_append];refine⟨h7.ord,?_,fun x hx y hy=>?_⟩
  ·cases L1.isEmpty<;>simp
  ·cases hl:L1.isEmpty with
   |true=>rw[hl] at hy;simp at hy
   |false=>
    rw[hl] at hy;simp at hy;subst hy;exact h6 x (h7.DE x hx)
end
theorem MZ{l:List Tk}{r:Int}{i:Nat}(hi:i<l.length)(h:uses l i r=true):lvl l i≤ceil l r:=by
 have key:∀n,i<n→lvl l i≤rU (mM l r) n:=by
  intro n;induction n with
  |zero=>intro h;omega
  |succ n ih=>
   intro hn;by_cases e:i=n
   ·subst e;rw[Iv h];omega
   ·have:=ih (by omega);show _≤max _ _;omega
 exact key _ hi
theorem wC{l:List Tk}{i k:Nat}{t u:Tk}(ht:l[i]?=some t)(hu:l[k]?=some u)(h:t.d≤u.d):lvl l k≤lvl l i:=by
 have hi:=(List.getElem?_eq_some_iff.1 ht).1;have hk:=(List.getElem?_eq_some_iff.1 hu).1;rw[Af (i:=((i:Nat):Int)) ⟨by omega,by omega⟩ (by rw[Int.toNat_natCast];exact ht),Af (i:=((k:Nat):Int)) ⟨by omega,by omega⟩ (by rw[Int.toNat_natCast];exact hu)];have:above l u.d≤above l t.d:=List.countP_mono_left fun x _ hx=>by
  simp only[decide_eq_true_eq] at hx⊢;omega
 omega
theorem Oa{l:List Tk}{i:Nat}(hi:i<l.length):0<lvl l i:=by
 rw[Af (i:=((i:Nat):Int)) ⟨by omega,by omega⟩ (by rw[Int.toNat_natCast];exact List.getElem?_eq_getElem hi)];omega
theorem Iu{T:List Tk}{L:List En}{n:Int}(h:∀x∈L,ceil T x.2<n)(h0:0<n):jQ T L<n:=by
 have key:∀(L:List En) (a:Int),a<n→(∀x∈L,ceil T x.2<n)→L.foldl (fun n x=>max n (ceil T x.2)) a<n:=by
  intro L;induction L with
  |nil=>intro a ha _;exact ha
  |cons x L ih=>
   intro a ha hL;refine ih _ ?_ (fun y hy=>hL y (by simp[hy]));have:=hL x (by simp);show max _ _<n;omega
 exact key L 0 h0 h
theorem It{T:List Tk}{L:List En}{x:En}(h:x∈L):ceil T x.2≤jQ T L:=by
 have k0:∀(L:List En) (a:Int),a≤L.foldl (fun n x=>max n (ceil T x.2)) a:=by
  intro L;induction L with
  |nil=>intro a;exact Int.le_refl _
  |cons y L ih=>intro a;exact Int.le_trans (by omega) (ih (max a (ceil T y.2)))
 have key:∀(L:List En) (a:Int),x∈L→ceil T x.2≤L.foldl (fun n x=>max n (ceil T x.2)) a:=by
  intro L;induction L with
  |nil=>intro a h;simp at h
  |cons y L ih=>
   intro a h;rcases List.mem_cons.1 h with rfl|h
   ·exact Int.le_trans (by omega) (k0 L (max a (ceil T x.2)))
   ·exact ih _ h
 exact key L 0 h
theorem dw{js:Js}{i n:Nat}{x:Option Jb}{jn:Jb}:bC (js.set i x) n jn↔(n=i∧i<js.length∧x=some jn)∨(n≠i∧bC js n jn):=by
 rw[bC,List.getElem?_set];by_cases e:i=n
 ·rw[if_pos e];by_cases hl:i<js.length
  ·rw[if_pos hl];constructor
   ·intro h;exact .inl ⟨e.symm,hl,Option.some.inj h⟩
   ·rintro(⟨_,_,h⟩|⟨h,_⟩)
    ·rw[h]
    ·exact absurd e.symm h
  ·rw[if_neg hl];constructor
   ·intro h;cases h
   ·rintro(⟨_,h,_⟩|⟨h,_⟩)
    ·exact absurd h hl
    ·exact absurd e.symm h
 ·rw[if_neg e];constructor
  ·intro h;exact .inr ⟨fun h=>e h.symm,h⟩
  ·rintro(⟨h,_⟩|⟨_,h⟩)
   ·exact absurd h.symm e
   ·exact h
def tF(js:Js)(i:Nat)(j:Jb):Prop:=bC js i j∧∀(i':Nat) (j':Jb),bC js i' j'→ah (i',j'.e) (i,j.e)=false
theorem zq{a b:Id}(hn:a.1≠b.1)(h:ah a b=false):ah b a=true:=by
 rw[rD] at h;rw[nQ];omega
theorem TG{a b:Id}(h:ah a b=true):ah b a=false:=yj h
structure Inv(T:List Tk)(js:Js)(L:List En)(now:Int)(R:List Nat)(o:List Nat):Prop where
 n4:T.length≤4
 jl:js.length=T.length
 tk:∀i j,bC js i j→T[i]?=some j.t
 sec:∀i j,bC js i j→j.s=0∨j.s=1
 e:∀i j,bC js i j→j.e≤now+j.t.d
 rj:∀a∈R,∃j,bC js a j
 gR:∀i j,bC js i j→j.g=true→i∈R
 nf:∀f j a ja,bC js f j→f∉R→a∈R→bC js a ja→ah (f,j.e) (a,ja.e)=true→j.t.d≤ja.t.d
 sk:Sk T js R L o
 ln:(L.length:Int)≤now
section
variable {T:List Tk} {js:Js} {L L':List En} {now:Int} {R:List Nat} {o o':List Nat} {i:Nat} {j j':Jb}
theorem Inv.tick(I:Inv T js L now R o):Inv T js L (now+1) R o:=
 ⟨I.n4,I.jl,I.tk,I.sec,fun i j h=>by have:=I.e i j h;omega,I.rj,I.gR,I.nf,I.sk,by have:=I.ln;omega⟩
theorem Inv.lt(I:Inv T js L now R o)(h:bC js i j):i<T.length:=(List.getElem?_eq_some_iff.1 (I.tk i j h)).1
theorem Sk.head{a:Nat}{R:List Nat}(h:Sk T js (a::R) L o):∀b∈R,XM js a b:=by
 obtain⟨L0,L1,o0,h1,h2,h3,h4,h5,h6,h7⟩:=h;exact h6
theorem Inv.I5(I:Inv T js L now R o)(F:tF js i j)(hi:i∈R):∃R',R=i::R':=by
 cases hR:R with
 |nil=>rw[hR] at hi;simp at hi
 |cons a R'=>
  rw[hR] at hi;rcases List.mem_cons.1 hi with rfl|hi
  ·exact⟨R',rfl⟩
  ·exfalso;have sk:=I.sk;rw[hR] at sk;obtain⟨ja,jy⟩:=I.rj a (by rw[hR];simp);have:=sk.head i hi ja j jy F.1;rw[F.2 a ja jy] at this;cases this
theorem Inv.who(I:Inv T js L now R o)(F:tF js i j)(h:j.g=true∨lvl T i>jQ T L):(∃R',R=i::R')∨(i∉R∧Inv T js L now (i::R) o):=by
 by_cases hi:i∈R
 ·exact .inl (I.I5 F hi)
 ·right;have hl:lvl T i>jQ T L:=h.resolve_left fun hg=>hi (I.gR i j F.1 hg);refine⟨hi,I.n4,I.jl,I.tk,I.sec,I.e,fun a ha=>?_,fun n jn h1 h2=>List.mem_cons_of_mem _ (I.gR n jn h1 h2),fun f jf a ja h1 h2 h3 h4 h5=>?_,⟨L,[],o,by simp,by simp,by simp,fun x hx=>?_,hi,fun b hb ji jb h1 h2=>?_,I.sk⟩,I.ln⟩
  ·rcases List.mem_cons.1 ha with rfl|ha
   ·exact⟨j,F.1⟩
   ·exact I.rj a ha
  ·rcases List.mem_cons.1 h3 with rfl|h3
   ·rw[h4.eq F.1,F.2 f jf h1] at h5;cases h5
   ·exact I.nf f jf a ja h1 (fun h=>h2 (by simp[h])) h3 h4 h5
  ·have:=It (T:=T) hx;omega
  ·rw[h1.eq F.1];exact zq (fun e=>hi (by have e:b=i:=e;rw[←e];exact hb)) (F.2 b jb h2)
theorem Inv.top(I:Inv T js L now R o)(F:tF js i j)(hl:¬lvl T i>jQ T L):∃a R',R=a::R'∧xm L=(((a:Nat):Int),true)∧aU L ((a:Nat):Int)≠[]∧
  (i=a∨(i∉R∧¬∀x∈L,x.1=((a:Nat):Int)→ceil T x.2<lvl T i)):=by
 have hlt:=I.lt F.1;have hpos:=Oa hlt;cases hR:R with
 |nil=>
  exfalso;have sk:=I.sk;rw[hR] at sk;rw[sk.1] at hl;exact hl (by show lvl T i>0;omega)
 |cons a R'=>
  have sk:=I.sk;rw[hR] at sk;obtain⟨L0,L1,o0,h1,h2,h3,h4,h5,h6,h7⟩:=sk;obtain⟨ja,jy⟩:=I.rj a (by rw[hR];simp);have AH:i=a∨(i∉R∧lvl T a≤lvl T i):=by
   by_cases e:i=a
   ·exact .inl e
   ·right;have hn:i∉R:=fun hi=>by
     obtain⟨R2,h⟩:=I.I5 F hi;rw[hR] at h;cases h
     exact e rfl
    exact⟨hn,wC (I.tk i j F.1) (I.tk a ja jy) (I.nf i j a ja F.1 hn (by rw[hR];simp) jy (zq (fun h=>e h.symm) (F.2 a ja jy)))⟩
  have hle:lvl T a≤lvl T i:=by
   rcases AH with rfl|h
   ·exact Int.le_refl _
   ·exact h.2
  have hno:¬∀x∈L,x.1=((a:Nat):Int)→ceil T x.2<lvl T i:=by
   intro hall;apply hl;refine Iu (fun x hx=>?_) hpos;rw[h1] at hx;rcases List.mem_append.1 hx with h|h
   ·have:=h4 x h;omega
   ·exact hall x (by rw[h1];exact List.mem_append_right _ h) (h3 x h)
  have hne:L1≠[]:=by
   intro e;apply hno;intro x hx e2;rw[h1,e,List.append_nil] at hx;exact absurd e2 (h7.no h5 x hx)
  refine⟨a,R',rfl,?_,?_,?_⟩
  ·obtain⟨y,hy⟩:∃y,L1.getLast?=some y:=by
    rw[List.getLast?_eq_some_getLast hne];exact⟨_,rfl⟩
   have:L.getLast?=some y:=by rw[h1,List.getLast?_append,hy];rfl
   rw[xm,this];show(y.1,true)=_;rw[h3 y (List.mem_of_getLast? hy)]
  ·rw[h1,pK,Aa (h7.no h5),pJ h3];cases L1 with
   |nil=>exact absurd rfl hne
   |cons x l=>simp
  ·rcases AH with h|h
   ·exact .inl h
   ·exact .inr ⟨by rw[←hR];exact h.1,hno⟩
theorem Inv.free{a:Nat}{R':List Nat}(I:Inv T js L now (a::R') o){x u:Int}(hu:uses T a x=true)(hx:(u,x)∈L):u=((a:Nat):Int):=by
 obtain⟨ja,jy⟩:=I.rj a (by simp);obtain⟨L0,L1,o0,h1,h2,h3,h4,h5,h6,h7⟩:=I.sk;rw[h1] at hx;rcases List.mem_append.1 hx with h|h
 ·have:ceil T x<lvl T a:=h4 _ h;have:=MZ (I.lt jy) hu;omega
 ·exact h3 _ h
theorem Inv.rel{t:Tk}(I:Inv T js L now R o)(h0:js[i]?=some none)(ht:T[i]?=some t)(h1:j'.g=false)(h2:j'.t=t)(h3:j'.s=0)(h4:j'.e=now+t.d):Inv T (js.set i (some j')) L now R o:=by
 have hno:∀j,¬bC js i j:=fun j h=>by rw[bC,h0] at h;cases h
 have Th:i∉R:=fun h=>by obtain⟨j,hj⟩:=I.rj i h;exact hno j hj
 have old:∀{n jn},bC (js.set i (some j')) n jn→(n=i∧jn=j')∨(n≠i∧bC js n jn):=fun h=>by
  rcases dw.1 h with⟨a,_,b⟩|h
  ·exact .inl ⟨a,(Option.some.inj b).symm⟩
  ·exact .inr h
 refine⟨I.n4,by rw[List.length_set];exact I.jl,fun n jn h=>?_,fun n jn h=>?_,fun n jn h=>?_,fun a ha=>?_,fun n jn h hg=>?_,fun f jf a ja b1 b2 b3 b4 b5=>?_,I.sk.congr fun a ha ja h=>?_,I.ln⟩
 ·rcases old h with⟨rfl,rfl⟩|⟨_,h⟩
  ·rw[h2];exact ht
  ·exact I.tk n jn h
 ·rcases old h with⟨rfl,rfl⟩|⟨_,h⟩
  ·exact .inl h3
  ·exact I.sec n jn h
 ·rcases old h with⟨rfl,rfl⟩|⟨_,h⟩
  ·rw[h4,h2];exact Int.le_refl _
  ·exact I.e n jn h
 ·obtain⟨ja,jy⟩:=I.rj a ha;exact⟨ja,dw.2 (.inr ⟨fun e=>Th (e▸ha),jy⟩)⟩
 ·rcases old h with⟨rfl,rfl⟩|⟨_,h⟩
  ·rw[h1] at hg;cases hg
  ·exact I.gR n jn h hg
 ·have ha:bC js a ja:=by
   rcases old b4 with⟨rfl,_⟩|⟨_,h⟩
   ·exact absurd b3 Th
   ·exact h
  rcases old b1 with⟨rfl,rfl⟩|⟨_,h⟩
  ·have q:=I.e a ja ha;rw[nQ] at b5;rw[h2];simp only[h4] at b5;omega
  ·exact I.nf f jf a ja h b2 b3 ha b5
 ·rcases old h with⟨rfl,_⟩|⟨_,h⟩
  ·exact absurd ha Th
  ·exact⟨ja,h,rfl⟩
theorem Inv.xU(I:Inv T js L now R o)(hj:bC js i j)(h1:j'.e=j.e)(h2:j'.t=j.t)(h3:j'.s=0∨j'.s=1)(h4:j'.g=true→i∈R)(hs:Sk T js R L' o')(hl:(L'.length:Int)≤now):Inv T (js.set i (some j')) L' now R o':=by
 have Jp:i<js.length:=(List.getElem?_eq_some_iff.1 hj).1;have old:∀{n jn},bC (js.set i (some j')) n jn→∃k,bC js n k∧k.e=jn.e∧k.t=jn.t∧(jn=j'∧n=i∨jn=k):=fun h=>by
  rcases dw.1 h with⟨a,_,b⟩|⟨_,h⟩
  ·cases b
   subst a;exact⟨j,hj,h1.symm,h2.symm,.inl ⟨rfl,rfl⟩⟩
  ·exact⟨_,h,rfl,rfl,.inr rfl⟩
 refine⟨I.n4,by rw[List.length_set];exact I.jl,fun n jn h=>?_,fun n jn h=>?_,fun n jn h=>?_,fun a ha=>?_,fun n jn h hg=>?_,fun f jf a ja b1 b2 b3 b4 b5=>?_,hs.congr fun a ha ja h=>?_,hl⟩
 ·obtain⟨k,k1,k2,k3,k4⟩:=old h;rw[←k3];exact I.tk n k k1
 ·obtain⟨k,k1,k2,k3,k4⟩:=old h;rcases k4 with⟨rfl,_⟩|rfl
  ·exact h3
  ·exact I.sec n _ k1
 ·obtain⟨k,k1,k2,k3,k4⟩:=old h;rw[←k2,←k3];exact I.e n k k1
 ·obtain⟨ja,jy⟩:=I.rj a ha;by_cases e:a=i
  ·exact⟨j',dw.2 (.inl ⟨e,Jp,rfl⟩)⟩
  ·exact⟨ja,dw.2 (.inr ⟨e,jy⟩)⟩
 ·obtain⟨k,k1,k2,k3,k4⟩:=old h;rcases k4 with⟨rfl,rfl⟩|rfl
  ·exact h4 hg
  ·exact I.gR n _ k1 hg
 ·obtain⟨k,k1,k2,k3,k4⟩:=old b1;obtain⟨l,l1,l2,l3,l4⟩:=old b4;rw[←k3,←l3];rw[←k2,←l2] at b5;exact I.nf f k a l k1 b2 b3 l1 b5
 ·obtain⟨k,k1,k2,_⟩:=old h;exact⟨k,k1,k2⟩
theorem Inv.end'{a:Nat}{R':List Nat}(I:Inv T js L now (a::R') o):Inv T (js.set a none) (iB L ((a:Nat):Int)) now R' (o.filter fun x=>!(x==a)):=by
 have hna:a∉R':=by obtain⟨L0,L1,o0,h1,h2,h3,h4,h5,h6,h7⟩:=I.sk;exact h5
 have old:∀{n jn},bC (js.set a none) n jn→n≠a∧bC js n jn:=fun h=>by
  rcases dw.1 h with⟨_,_,b⟩|h
  ·cases b
  ·exact h
 refine⟨I.n4,by rw[List.length_set];exact I.jl,fun n jn h=>I.tk n jn (old h).2,fun n jn h=>I.sec n jn (old h).2,fun n jn h=>I.e n jn (old h).2,fun b hb=>?_,fun n jn h hg=>?_,fun f jf b jb b1 b2 b3 b4 b5=>?_,I.sk.end'.congr fun b hb jb h=>⟨jb,(old h).2,rfl⟩,?_⟩
 ·obtain⟨jb,BE⟩:=I.rj b (List.mem_cons_of_mem _ hb);exact⟨jb,dw.2 (.inr ⟨fun e=>hna (e▸hb),BE⟩)⟩
 ·obtain⟨h1,h2⟩:=old h;exact(List.mem_cons.1 (I.gR n jn h2 hg)).resolve_left h1
 ·obtain⟨h1,h2⟩:=old b1;exact I.nf f jf b jb h2 (fun h=>(List.mem_cons.1 h).elim h1 b2) (List.mem_cons_of_mem _ b3) (old b4).2 b5
 ·have:=I.ln;have:(iB L ((a:Nat):Int)).length≤L.length:=List.length_filter_le ..;omega
end
def JE(js tC:Js):Prop:=(∀i j',bC tC i j'→∃j,bC js i j∧j.e=j'.e)∧∀i j,bC js i j→∃j',bC tC i j'∧j'.e=j.e
theorem JE.refl(js:Js):JE js js:=⟨fun i j h=>⟨j,h,rfl⟩,fun i j h=>⟨j,h,rfl⟩⟩
theorem JE.set{js:Js}{i:Nat}{j j':Jb}(h:bC js i j)(he:j'.e=j.e):JE js (js.set i (some j')):=by
 have hl:i<js.length:=(List.getElem?_eq_some_iff.1 h).1;refine⟨fun n jn hn=>?_,fun n jn hn=>?_⟩
 ·rcases dw.1 hn with⟨rfl,_,e⟩|⟨_,h'⟩
  ·cases e
   exact⟨j,h,he.symm⟩
  ·exact⟨jn,h',rfl⟩
 ·by_cases e:n=i
  ·subst e;rw[hn.eq h];exact⟨j',dw.2 (.inl ⟨rfl,hl,rfl⟩),he⟩
  ·exact⟨jn,dw.2 (.inr ⟨e,hn⟩),rfl⟩
def ck(T:List Tk)(js:Js)(L:List En)(R:List Nat)(a:Nat):Prop:=∀t jt ja,bC js t jt→bC js a ja→t∉R→ah (t,jt.e) (a,ja.e)=true→
 ∃f jf,bC js f jf∧f∉R∧(f=t∨ah (f,jf.e) (t,jt.e)=true)∧¬∀x∈L,x.1=((a:Nat):Int)→ceil T x.2<lvl T f
def FQ(T:List Tk)(js:Js)(L:List En)(R:List Nat)(a:Nat)(R2:List Nat):Prop:=(R=a::R2∨(a∉R∧(∃j,tF js a j)∧R2=R))∧ck T js L (a::R2) a
def Mv(T:List Tk)(js:Js)(L:List En)(R:List Nat)(tC:Js)(L':List En)(R':List Nat):Prop:=(R'=R∧tC=js∧L'=L)∨
 ∃a R2,FQ T js L R a R2∧((R'=a::R2∧JE js tC∧∀x∈L',x.1=((a:Nat):Int)∨x∈L)∨(R'=R2∧tC=js.set a none∧L'=iB L ((a:Nat):Int)))
section
variable {T:List Tk} {js:Js} {L L':List En} {now:Int} {R:List Nat} {o o':List Nat} {i:Nat} {j:Jb}
theorem zy(F:tF js i j){R:List Nat}:ck T js L R i:=by
 intro t jt ja ht ha _ h;rw[ha.eq F.1,F.2 t jt ht] at h;cases h
theorem Inv.Bp(I:Inv T js L now R o)(F:tF js i j)(h:j.g=true∨lvl T i>jQ T L):∃R2,FQ T js L R i R2∧Inv T js L now (i::R2) o:=by
 rcases I.who F h with⟨R2,rfl⟩|⟨hn,I2⟩
 ·exact⟨R2,⟨.inl rfl,zy F⟩,I⟩
 ·exact⟨R,⟨.inr ⟨hn,⟨j,F⟩,rfl⟩,zy F⟩,I2⟩
theorem Inv.Bq(I:Inv T js L now R o)(F:tF js i j)(hl:¬lvl T i>jQ T L):∃a R2,xm L=(((a:Nat):Int),true)∧FQ T js L R a R2∧Inv T js L now (a::R2) o:=by
 obtain⟨a,R2,rfl,h1,h2,h3⟩:=I.top F hl;refine⟨a,R2,h1,⟨.inl rfl,?_⟩,I⟩;rcases h3 with rfl|⟨h3,h4⟩
 ·exact zy F
 ·intro t jt ja ht ha hn h;refine⟨i,j,F.1,h3,?_,h4⟩;by_cases e:i=t
  ·exact .inl e
  ·exact .inr (zq (fun h=>e h.symm) (F.2 t jt ht))
end
def yW(t:Tk):Int:=1+gS t.p 64
def AM(t:Tk):Int:=1+gS t.d (yW t)
def Kl(t:Tk):Int:=1+gS t.w (AM t)
def Vv(t:Tk):Int:=gS t.a 16
def Ah(t:Tk):Tk:=⟨yW t,AM t,Kl t,Vv t,if decide (Vv t>0)=true then Kl t else 0,0,0,0⟩
theorem ku{i n:Int}(h:0<n):0≤gS i n∧gS i n<n:=⟨Int.emod_nonneg _ (by omega),Int.emod_lt_of_pos _ h⟩
theorem Sd{l:List Tk}{k B:Nat}{Q:AX→Env→Heap→Prop}(hl:l.length<2^62)(hQ:∀h v e,GR 8 0 h v (ey ((l.take 4).map Ah))→bZ e [(3,v)]→Q (.exit 0) e h):
  ∀(m i:Nat) (h:Heap) (v:AV) (env:Env),4-i=m→i≤4→i≤l.length→GR 8 0 h v (ey ((l.take i).map Ah))→
   bZ env [(0,.fz k (ey l)),(3,v),(4,.int .i64 ((i:Nat):Int))]→VC fs ms B false (.loop iJ) env h Q:=by
 intro m;induction m using Nat.strongRecOn with
 |ind m ih=>
 intro i h v env hm hi Jp hg fO;refine aE 6 _ fO ?_;refine dm (z:=true) ?_;have sv:decide (((i:Nat):Int)<(((ey l).length:Nat):Int))=decide (i<l.length):=by rw[bB];simp
 cases c:decide (i<l.length) with
 |false=>
  rw[c] at sv;conv=>whnf
  refine qm (sv) (fun hc=>?_)
  (try rw[hc])
  conv=>whnf
  have hge:l.length≤i:=by have:=of_decide_eq_false c;omega
  refine hQ h v _ ?_ ⟨rfl,trivial⟩;rw[List.take_of_length_le (show l.length≤4 by omega),←List.take_of_length_le hge];exact hg
 |true=>
  rw[c] at sv;have hlt:i<l.length:=of_decide_eq_true c;conv=>whnf
  refine qO (sv) (fun hc=>?_)
  (try rw[hc])
  conv=>whnf
  refine br (fun hc=>?_) (fun hc=>?_)<;>(try rw[hc])<;>(conv=>whnf)
  ·have hi4:i<4:=by have:=of_decide_eq_true hc;omega
   refine⟨_,iH hlt,?_⟩;conv=>whnf
   obtain⟨t,ht⟩:∃t,t=l[i]:=⟨_,rfl⟩;have bp:=ku (i:=t.p) (n:=64) (by decide);have ep:IntKind.i64.wrap (1+gS t.p 64)=yW t:=IntWalk.i64_in _ (by omega);have kp:0<yW t∧yW t≤64:=⟨by show 0<1+gS t.p 64;omega,by show 1+gS t.p 64≤64;omega⟩;have bd:=ku (i:=t.d) kp.1;have ed:IntKind.i64.wrap (1+gS t.d (yW t))=AM t:=IntWalk.i64_in _ (by omega);have kd:0<AM t∧AM t≤64:=⟨by show 0<1+gS t.d (yW t);omega,by show 1+gS t.d (yW t)≤64;omega⟩;have bw:=ku (i:=t.w) kd.1;have ew:IntKind.i64.wrap (1+gS t.w (AM t))=Kl t:=IntWalk.i64_in _ (by omega);rw[←ht];refine⟨.int .i64 t.p,rfl,?_⟩;conv=>whnf
   refine aO (qn t.p 64 (by decide) (by decide)) ?_;conv=>whnf
   rw[ep];refine⟨_,iH hlt,?_⟩;conv=>whnf
   rw[←ht];refine⟨.int .i64 t.d,rfl,?_⟩;conv=>whnf
   refine aO (qn t.d (yW t) kp.1 (by omega)) ?_;conv=>whnf
   rw[ed];refine⟨_,iH hlt,?_⟩;conv=>whnf
   rw[←ht];refine⟨.int .i64 t.w,rfl,?_⟩;conv=>whnf
   refine aO (qn t.w (AM t) kd.1 (by omega)) ?_;conv=>whnf
   rw[ew];refine⟨_,iH hlt,?_⟩;conv=>whnf
   rw[←ht];refine⟨.int .i64 t.a,rfl,?_⟩;conv=>whnf
   refine aO (qn t.a 16 (by decide) (by decide)) ?_;conv=>whnf
   refine dV (cj ai rfl (Nat.le_refl _) rfl) fun h1 e1=>?_;have iX:Fr h h1 []:=by rw[e1];exact((Fr.refl h []).new (x:=_)).qS (Nat.le_refl _)
   have gb:h1.get h.next=some (.cells (tk ⟨yW t,AM t,Kl t,Vv t,0,0,0,0⟩).cells true 0):=by rw[e1,aC];rfl
   have nb:h.next<h1.next:=by rw[e1];exact Nat.lt_succ_self _
   clear e1;conv=>whnf
   refine⟨nL (by(conv=>whnf);repeat' (first|exact trivial|(exact⟨rfl,rfl,.inr ⟨_,_,rfl⟩⟩)|(refine⟨rfl,rfl,.inl ⟨rfl,fun o ho=>?_⟩⟩;cases ho;first|rfl)|(exact⟨rfl,.inr ⟨_,_,rfl⟩⟩)|(refine⟨rfl,.inl ⟨rfl,fun i o hi ho=>?_⟩⟩;cases hi;cases ho;first|rfl)|(refine And.intro (fun fI=>(Bool.false_ne_true fI).elim) ?_<;>conv=>whnf)|(refine And.intro (fun _=>?_) ?_<;>conv=>whnf)|(refine And.intro ?_ ?_<;>conv=>whnf))),?_⟩;conv=>whnf
   refine⟨_,bU gb rfl,?_⟩;conv=>whnf
   have step:∀(h2:Heap),Fr h h2 []→h2.get h.next=some (.cells (tk (Ah t)).cells true 0)→∀(K:Prop),(∀v' g',GR 8 0 g' v' (ey ((l.take (i+1)).map Ah))→eV (.append 8 64) [v,.sl h2.next 0 1 1 false] (h2.new (.cells (tk (Ah t)).cells true 0))=some (v',g')→K)→K:=by
    intro h2 jx g2 K hK;have hlen:((l.take i).map Ah).length=i:=by rw[List.length_map,List.length_take];omega
    obtain⟨v',g',a1,a2,a3,a4⟩:=(hg.keep jx (by simp)).app (bytes:=64) (Nat.zero_le _) (x:=tk (Ah t)) rfl rfl (nG _) (by rw[bB,hlen];omega) (by rw[bB,hlen];omega);refine hK v' g' ?_ a1;have:(l.take (i+1)).map Ah=(l.take i).map Ah++[Ah t]:=by rw[gy hlt,List.map_append,ht];rfl
    rw[this,ey,List.map_append];exact a2
   refine br (fun hc=>?_) (fun hc=>?_)<;>(try rw[hc])<;>(conv=>whnf)
   ·refine⟨_,bU gb rfl,?_⟩;conv=>whnf
    refine dV (cj gb rfl (Nat.le_of_ble_eq_true rfl) rfl) fun h2 e2=>?_;have em:tk (Ah t)=.agg [.int .i64 (yW t),.int .i64 (AM t),.int .i64 (Kl t),.int .i64 (Vv t),.int .i64 (Kl t),.int .i64 0,.int .i64 0,.int .i64 0]:=by
     rw[Ah,if_pos hc];rfl
    have g2:h2.get h.next=some (.cells (tk (Ah t)).cells true 0):=by rw[em,e2];exact aC
    have jx:Fr h h2 []:=by rw[e2];exact iX.qS (Nat.le_refl _)
    conv=>whnf
    refine⟨_,Ads.xA (n:=8) g2 (Nat.le_refl _),?_⟩;conv=>whnf
    refine step h2 jx g2 _ fun v' g' hg' ha=>⟨_,_,ha,?_⟩;conv=>whnf
    exact ih (4-(i+1)) (by omega) (i+1) _ _ _ rfl (by omega) (by omega) hg' ⟨rfl,rfl,aL (by omega),trivial⟩
   ·have em:tk (Ah t)=.agg [.int .i64 (yW t),.int .i64 (AM t),.int .i64 (Kl t),.int .i64 (Vv t),.int .i64 0,.int .i64 0,.int .i64 0,.int .i64 0]:=by
     rw[Ah,if_neg (by rw[hc];simp)];rfl
    have g2:h1.get h.next=some (.cells (tk (Ah t)).cells true 0):=by rw[em];exact gb
    refine⟨_,Ads.xA (n:=8) g2 (Nat.le_refl _),?_⟩;conv=>whnf
    refine step h1 iX g2 _ fun v' g' hg' ha=>⟨_,_,ha,?_⟩;conv=>whnf
    exact ih (4-(i+1)) (by omega) (i+1) _ _ _ rfl (by omega) (by omega) hg' ⟨rfl,rfl,aL (by omega),trivial⟩
  ·have h4:i=4:=by have:=of_decide_eq_false hc;omega
   subst h4;exact hQ h v _ hg ⟨rfl,trivial⟩
def iP(l:List Tk):List Tk:=(l.take 4).map Ah
theorem Ag(l:List Tk):(iP l).length≤4:=by rw[iP,List.length_map,List.length_take];omega
theorem Pk{l:List Tk}(h:pG (ey l).length=3):l=[]:=by
 cases l with
 |nil=>rfl
 |cons x l=>cases h
theorem Ki(k:Nat)(l:List Tk)(hl:l.length<2^62):PC fs ms 8 [.fz k (ey l)] (.fz (pG (ey (iP l)).length) (ey (iP l))):=by
 refine⟨by simp[cw,AV.cl,bW],by simp[AV.cl,bW],?_⟩;refine dz (af:=C8) rfl (Nat.le_of_ble_eq_true rfl) ?_;generalize hQ:(fun(u:AV) (g:Heap)=>kY (fun _=>True) g u (.fz (pG (ey (iP l)).length) (ey (iP l))))=Q;conv=>whnf
 refine aM true ?_;conv=>whnf
 refine aM true ?_;conv=>whnf
 refine bt (aM true ?_);conv=>whnf
 refine bR ?_;refine Sd hl ?_ 4 0 _ .aH _ rfl (by omega) (by omega) .nil ⟨rfl,rfl,rfl,trivial⟩;intro h v e hg he;refine aE 3 _ he (aA (z:=true) ?_);conv=>whnf
 subst hQ;have hg:GR 8 0 h v (ey (iP l)):=hg;have hs:=nG (iP l);have kV:=bW (iP l);generalize ey (iP l)=M at*;rcases hg with⟨rfl,rfl⟩|⟨hne,b,h1,h2,rfl,h4⟩
 ·exact .aH
 ·cases M with
  |nil=>exact absurd rfl hne
  |cons m M=>exact kB trivial h4 rfl hs rfl kV
section
variable {h:Heap} {col:Nat→Nat} {r:Nat} {st:St} {Q:AV→Heap→Prop} {i:Nat} {j:Jb} {tE:Tk} {l:List Op} {kk:Nat} {now n:Int}
theorem Au(R:RA h col r st)(hk:kk=3→l=[])(hl:l.length≤1000)(h0:eR st.T i≠0→Q (.int .i64 (eR st.T i)) h)
  (h1:∀(i':Nat) (j:Jb),((i:Nat):Int)=((i':Nat):Int)→st.j[i']?=some (some j)→Q (.int .i64 141) h)
  (h2:∀(i':Nat) (tk:Tk),((i:Nat):Int)=((i':Nat):Int)→st.T[i']?=some tk→st.j[i']?=some none→fq tk l now≠0→∀h' aK,RA h' aK r st→Kc h h' col aK Ee→Q (.int .i64 (fq tk l now)) h')
  (h3:∀(i':Nat) (tk:Tk) (n:Int),((i:Nat):Int)=((i':Nat):Int)→st.T[i']?=some tk→st.j[i']?=some none→fq tk l now=0→st.g[i']?=some n→nZ n now≠0→∀h' aK,RA h' aK r st→Kc h h' col aK Ee→Q (.int .i64 (nZ n now)) h')
  (h4:∀(i':Nat) (tk:Tk) (n:Int),((i:Nat):Int)=((i':Nat):Int)→st.T[i']?=some tk→st.j[i']?=some none→fq tk l now=0→st.g[i']?=some n→nZ n now=0→∀h' aK,RA h' aK r {st with j:=st.j.set i' (some (mH tk l now)),g:=st.g.set i' (I6 tk.p n now)}→Kc h h' col aK Ee→Q (.int .i64 0) h'):
  VD fs ms 28 [.ptr r 0,.int .i64 ((i:Nat):Int),.fz kk (ops l),.int .i64 now] h Q:=
 Fx R (bs:=[]) (by simp) (fun t0 Q a b=>RR hk (by omega) a b) h0 h1 h2 h3 h4
theorem CL(hi:i<st.T.length):eR st.T i=0:=by rw[eR,decide_eq_false (by omega),decide_eq_false (by omega)];rfl
theorem DP(R:RA h col r st)(hk:kk=3→l=[])(hl:l.length≤1000)(ht:st.T[i]?=some tE)(hj:st.j[i]?=some none)(hg:st.g[i]?=some n)(hz:fq tE l now=0)(ha:nZ n now=0)
  (hQ:∀h' aK,RA h' aK r {st with j:=st.j.set i (some (mH tE l now)),g:=st.g.set i (I6 tE.p n now)}→Q (.int .i64 0) h'):VD fs ms 28 [.ptr r 0,.int .i64 ((i:Nat):Int),.fz kk (ops l),.int .i64 now] h Q:=by
 refine Au R hk hl (fun h=>(h (CL (List.getElem?_eq_some_iff.1 ht).1)).elim) (fun i' j' hi' hj'=>?_) (fun i' t' hi' ht' _ hn=>?_) (fun i' t' n' hi' ht' _ _ hg' hn=>?_) (fun i' t' n' hi' ht' hj' _ hg' _ h' aK R' _=>?_);all_goals obtain rfl:i=i':=by omega
 ·rw[hj] at hj';cases hj'
 ·rw[ht] at ht';cases ht';exact absurd hz hn
 ·rw[hg] at hg';cases hg';exact absurd ha hn
 ·rw[ht] at ht';cases ht';rw[hg] at hg';cases hg';exact hQ h' aK R'
theorem KI(R:RA h col r st)(hk:kk=3→l=[])(hl:l.length≤1000)(hi:i<st.T.length)(hj:st.j[i]?=some (some j))(hQ:Q (.int .i64 141) h):VD fs ms 28 [.ptr r 0,.int .i64 ((i:Nat):Int),.fz kk (ops l),.int .i64 now] h Q:=by
 refine Au R hk hl (fun h=>(h (CL hi)).elim) (fun i' j' hi' hj'=>hQ) (fun i' t' hi' ht' hj' hn=>?_) (fun i' t' n' hi' ht' hj' _ hg' hn=>?_) (fun i' t' n' hi' ht' hj' _ hg' _ h' aK R' _=>?_);all_goals (obtain rfl:i=i':=by omega);rw[hj] at hj';cases hj'
theorem Hf(R:RA h col r st)(hk:kk=3→l=[])(hl:l.length≤1000)(ht:st.T[i]?=some tE)(hj:st.j[i]?=some none)(hg:st.g[i]?=some n)(hz:fq tE l now=0)(ha:nZ n now=140)
  (hQ:∀h' aK,RA h' aK r st→Q (.int .i64 140) h'):VD fs ms 28 [.ptr r 0,.int .i64 ((i:Nat):Int),.fz kk (ops l),.int .i64 now] h Q:=by
 refine Au R hk hl (fun h=>(h (CL (List.getElem?_eq_some_iff.1 ht).1)).elim) (fun i' j' hi' hj'=>?_) (fun i' t' hi' ht' _ hn=>?_) (fun i' t' n' hi' ht' _ _ hg' hn h' aK R' _=>?_) (fun i' t' n' hi' ht' hj' _ hg' hn h' aK R' _=>?_);all_goals obtain rfl:i=i':=by omega
 ·rw[hj] at hj';cases hj'
 ·rw[ht] at ht';cases ht';exact absurd hz hn
 ·rw[hg] at hg';cases hg';rw[ha];exact hQ h' aK R'
 ·rw[hg] at hg';cases hg';rw[ha] at hn;cases hn
theorem Ax{e:Int}{j':Jb}(R:RA h col r st)(hi:i<st.T.length)(hj:st.j[i]?=some (some j))(he:q8 j=e)(hj':mc j=j')(hQ:∀h' aK,RA h' aK r {st with j:=st.j.set i (some j')}→Q (.int .i64 e) h'):VD fs ms 21 [.ptr r 0,.int .i64 ((i:Nat):Int)] h Q:=by
 subst he;subst hj';refine Fy R (fun h=>(h (cV hi hj)).elim) (fun i' j' hi' hj' h' aK R' _=>?_);obtain rfl:i=i':=by omega
 rw[hj] at hj';cases hj';exact hQ h' aK R'
theorem EA{e:Int}{j':Jb}(R:RA h col r st)(hi:i<st.T.length)(hj:st.j[i]?=some (some j))(he:EY j=e)(hj':JY j=j')(hQ:∀h' aK,RA h' aK r {st with j:=st.j.set i (some j')}→Q (.int .i64 e) h'):VD fs ms 20 [.ptr r 0,.int .i64 ((i:Nat):Int)] h Q:=by
 subst he;subst hj';refine OA R (fun h=>(h (cV hi hj)).elim) (fun i' j' hi' hj' h' aK R' _=>?_);obtain rfl:i=i':=by omega
 rw[hj] at hj';cases hj';exact hQ h' aK R'
theorem Kh{x:Int}{j':Jb}(R:RA h col r st)(hL:st.L.length≤900)(hi:i<st.T.length)(hj:st.j[i]?=some (some j))(hs:j.s<2)(hz:jq st.T st.L i x=0)(hj':tB j=j')(hQ:∀h' aK,RA h' aK r {st with L:=st.L++[(((i:Nat):Int),x)],j:=st.j.set i (some j')}→Q (.int .i64 0) h'):
  VD fs ms 22 [.ptr r 0,.int .i64 ((i:Nat):Int),.int .i64 x] h Q:=by
 subst hj';refine wV R hL (fun h=>(h (cV hi hj)).elim) (fun i' j' hi' hj' hs'=>?_) (fun i' j' hi' hj' _ hn=>(hn hz).elim) (fun i' j' hi' hj' _ _ h' aK R' _=>?_);all_goals (obtain rfl:i=i':=by omega);rw[hj] at hj';cases hj'
 ·omega
 ·exact hQ h' aK R'
theorem D6{m:Nat}{j':Jb}(R:RA h col r st)(hL:st.L.length≤900)(hi:i<st.T.length)(hj:st.j[i]?=some (some j))(hz:nJ st.T st.L i=0)(hm:ej st.L i=((m:Nat):Int))(hj':sN (st.L.eraseIdx m) i j=j')
  (hQ:∀h' aK,RA h' aK r {st with L:=st.L.eraseIdx m,j:=st.j.set i (some j')}→Q (.int .i64 0) h'):VD fs ms 23 [.ptr r 0,.int .i64 ((i:Nat):Int)] h Q:=by
 subst hj';refine wW R hL (fun h=>(h (cV hi hj)).elim) (fun i' j' hi' hj' hn=>(hn hz).elim) (fun i' j' hi' hj' _ m' _ hm' h' aK R' _=>?_);obtain rfl:i=i':=by omega
 obtain rfl:m=m':=by omega
 rw[hj] at hj';cases hj';exact hQ h' aK R'
theorem Ng(R:RA h col r st)(hL:st.L.length≤900)(hi:i<st.T.length)(hj:st.j[i]?=some (some j))(hQ:∀h' aK,RA h' aK r {st with L:=iB st.L i,j:=st.j.set i none}→Q (.bool true) h'):VD fs ms 27 [.ptr r 0,.int .i64 ((i:Nat):Int)] h Q:=by
 refine Fv R hL (fun h=>(h (cV hi hj)).elim) (fun i' j' hi' hj' h' aK R' _=>?_);obtain rfl:i=i':=by omega
 exact hQ h' aK R'
theorem vR{js:Js}{i i':Nat}{j j':Jb}(F:tF js i j)(F':tF js i' j'):i=i':=by
 by_cases e:i=i'
 ·exact e
 ·have:=zq (a:=(i',j'.e)) (b:=(i,j.e)) (fun h=>e h.symm) (F.2 i' j' F'.1);rw[F'.2 i j F.1] at this;cases this
theorem FM(R:RA h col r st)(hL:st.L.length≤900)(hs:∀(i:Nat) (j:Jb),st.j[i]?=some (some j)→j.s<2)(F:tF st.j i j)(hc:j.g=true∨lvl st.T i>jQ st.T st.L)(hQ:Q (.bool true) h):VD fs ms 31 [.ptr r 0,.int .i64 ((i:Nat):Int)] h Q:=by
 refine ak (af:=TB) true rfl (Nat.le_of_ble_eq_true rfl) ?_;conv=>whnf
 refine vt R hL (fun i' j' hj' h2=>?_) (fun hno=>(hno i j F.1).elim) (fun _ i' j' F' _=>?_) (fun _ i' j' F' hg hl=>?_)
 ·have:=hs i' j' hj';omega
 ·obtain rfl:=vR F F';conv=>whnf
  refine qO (by simp) (fun hc=>?_)
  (try rw[hc])
  conv=>whnf
  exact hQ
 ·obtain rfl:=vR F F';obtain rfl:j=j':=bC.eq F.1 F'.1;rcases hc with h|h
  ·rw[h] at hg;cases hg
  ·exact(hl h).elim
theorem O2{t:Nat}(R:RA h col r st)(hL:st.L.length≤900)(hs:∀(i:Nat) (j:Jb),st.j[i]?=some (some j)→j.s<2)(F:tF st.j i j)(hc:j.g=false)(Gw:¬lvl st.T i>jQ st.T st.L)(ht:xm st.L=(((t:Nat):Int),true))(hQ:Q (.bool true) h):VD fs ms 31 [.ptr r 0,.int .i64 ((t:Nat):Int)] h Q:=by
 refine ak (af:=TB) true rfl (Nat.le_of_ble_eq_true rfl) ?_;conv=>whnf
 refine vt R hL (fun i' j' hj' h2=>?_) (fun hno=>(hno i j F.1).elim) (fun _ i' j' F' h=>?_) (fun _ i' j' F' hg hl=>?_)
 ·have:=hs i' j' hj';omega
 ·obtain rfl:=vR F F';obtain rfl:j=j':=bC.eq F.1 F'.1;rcases h with h|h
  ·rw[h] at hc;cases hc
  ·exact(Gw h).elim
 ·rw[ht];conv=>whnf
  refine qO (by simp) (fun hc=>?_)
  (try rw[hc])
  conv=>whnf
  exact hQ
end
def LA:Tk:=⟨20,10,4,1,1,0,0,0⟩
def PZ:Tk:=⟨30,20,6,1,3,0,0,0⟩
def xu:List Op:=[⟨2,0,[]⟩,⟨1,3,[]⟩,⟨3,0,[]⟩,⟨1,3,[]⟩]
def D9:List Op:=[⟨1,2,[]⟩]
theorem EE{h H:Heap}{b:Nat}(f:Fr h H [])(hb:h.next≤b):Fr h (dQ [b] H) []:=by
 refine⟨f.next,fun c hc _=>?_⟩;show(H.del b).get c=_;rw[eD (by omega)];exact f.keep c hc (by simp)
theorem EF{h:Heap}{s:Nat}{l:List AV}{vs:List AV}(hs:aR s l=true)(hc:cw l=true)(hv:vs=aa l):kY (· ∈[h.next]) (h.new (.cells vs true 0)) (.sl h.next 0 l.length l.length false) (.fz 0 l):=
 qw (by simp) ai (by rw[hv,List.append_nil]) hs rfl (Nat.le_refl _) hc
theorem AE{js:Js}{a b:Option Jb}(e:js=[a,b])(i:Nat)(j:Jb)(h:js[i]?=some (some j)):(i=0∧a=some j)∨(i=1∧b=some j):=by
 subst e
 match i,h with
 |0,h=>exact .inl ⟨rfl,Option.some.inj h⟩
 |1,h=>exact .inr ⟨rfl,Option.some.inj h⟩
 |n+2,h=>cases h
theorem K6{js:Js}{a b:Option Jb}(e:js=[a,b])(h:(a.map Jb.s).getD 0<2∧(b.map Jb.s).getD 0<2)(i:Nat)(j:Jb)(hj:js[i]?=some (some j)):j.s<2:=by
 rcases AE e i j hj with⟨_,rfl⟩|⟨_,rfl⟩
 ·exact h.1
 ·exact h.2
theorem Ph{js:Js}{a:Jb}{b:Option Jb}(e:js=[some a,b])(h:ah (0,a.e) (0,a.e)=false∧ah (1,(b.map Jb.e).getD 0) (0,a.e)=false):tF js 0 a:=by
 refine⟨by rw[e];rfl,fun i j hj=>?_⟩;rcases AE e i j hj with⟨rfl,h1⟩|⟨rfl,rfl⟩
 ·cases h1;exact h.1
 ·exact h.2
theorem Ub{js:Js}{b:Jb}(e:js=[none,some b])(h:ah (1,b.e) (1,b.e)=false):tF js 1 b:=by
 refine⟨by rw[e];rfl,fun i j hj=>?_⟩;rcases AE e i j hj with⟨rfl,h1⟩|⟨rfl,h1⟩
 ·cases h1
 ·cases h1;exact h
def wS0:St:=⟨[LA,PZ],[],[none,none],[0,0]⟩
def Hz(l:List Op)(n s k:Int):Jb:=⟨PZ,l,20,n,s,k,0,true⟩
def Tz:Jb:=⟨LA,D9,11,0,0,0,0,false⟩
def PY(L:List En)(a b:Option Jb)(g:Int):St:=⟨[LA,PZ],L,[a,b],[g,30]⟩
theorem zm:PC fs ms 7 [] (.bool true):=by
 refine cG rfl rfl ?_;refine dz (af:=C7) rfl (Nat.le_of_ble_eq_true rfl) ?_;generalize hQ:(fun(v:AV) (_:Heap)=>v=.bool true)=Q;conv=>whnf
 refine aM true ?_;conv=>whnf
 refine aM true ?_;conv=>whnf
 refine aE 3 [(1,.sl 0 0 2 2 false)] ⟨rfl,trivial⟩ (sj [0] (i:=1) (v':=.fz 0 (ey [LA,PZ])) rfl (EF (h:=⟨0,.nil⟩) (s:=8) (l:=ey [LA,PZ]) rfl rfl rfl) ?_);refine aE 3 [(1,.fz 0 (ey [LA,PZ]))] ⟨rfl,trivial⟩ ?_;generalize dQ [0] _=h1;refine aM true ?_;conv=>whnf
 refine As (col:=fun _=>0) 0 [LA,PZ] (fun h=>by cases h) (by decide) (fun hn=>(hn (by decide)).elim) (fun _ h2 xH r R0 _=>?_);conv=>whnf
 refine bt (aA (z:=true) ?_);conv=>whnf
 refine aM true ?_;conv=>whnf
 refine aM true ?_;conv=>whnf
 have R0:RA h2 xH r wS0:=R0;have tV:Fr h2 ((h2.new (.cells (aa (ops xu)) true 0)).new (.cells (aa (ops D9)) true 0)) []:=(Fr.refl h2 []).new.new;have R1:=R0.nil (EE (b:=h2.next) (EE (b:=h2.next+1) tV (Nat.le_succ _)) (Nat.le_refl _));have gA:(dQ [h2.next+1] ((h2.new (.cells (aa (ops xu)) true 0)).new (.cells (aa (ops D9)) true 0))).get h2.next=some (.cells (aa (ops xu)) true 0):=by
  show(Heap.del _ _).get _=_;rw[eD (by omega),ay (Nat.lt_succ_self _)];exact ai
 show VC fs ms _ _ _ _ ((h2.new (.cells (aa (ops xu)) true 0)).new (.cells (aa (ops D9)) true 0)) _;refine aE 3 [(2,.ptr r 0),(4,.sl h2.next 0 4 4 false),(5,.sl (h2.next+1) 0 1 1 false)] ⟨rfl,rfl,rfl,trivial⟩ ?_;refine sj [h2.next+1] (i:=5) (v':=.fz 0 (ops D9)) rfl (EF (h:=h2.new (.cells (aa (ops xu)) true 0)) (s:=3) (l:=ops D9) rfl rfl rfl) ?_;refine sj [h2.next] (i:=4) (v':=.fz 0 (ops xu)) rfl (qw (s:=3) (rest:=[]) (by simp) gA rfl rfl rfl (Nat.le_refl _) rfl) ?_;refine aE 3 [(2,.ptr r 0),(4,.fz 0 (ops xu)),(5,.fz 0 (ops D9))] ⟨rfl,rfl,rfl,trivial⟩ ?_;generalize dQ [h2.next] _=h3 at*;refine aM true ?_;conv=>whnf
 refine DP (i:=1) (tE:=PZ) (n:=0) R1 (fun h=>by cases h) (by decide) rfl rfl rfl rfl rfl fun h4 c4 R4=>?_;conv=>whnf
 refine FM (i:=1) R4 (by decide) (K6 rfl (by decide)) (Ub rfl (by decide)) (.inr (by decide)) ?_;conv=>whnf
 refine Kh (i:=1) R4 (by decide) (by decide) rfl (by decide) (by decide) rfl fun h5 c5 R5=>?_;conv=>whnf
 refine EA (i:=1) (e:=0) R5 (by decide) rfl rfl rfl fun h6 c6 R6=>?_;conv=>whnf
 replace R6:RA h6 c6 r (PY [(1,0)] none (some (Hz [⟨1,3,[]⟩,⟨3,0,[]⟩,⟨1,3,[]⟩] 0 1 0)) 0):=R6;refine aM true ?_;conv=>whnf
 refine DP (i:=0) (tE:=LA) (n:=0) R6 (fun h=>by cases h) (by decide) rfl rfl rfl rfl rfl fun h7 c7 R7=>?_;replace R7:RA h7 c7 r (PY [(1,0)] (some Tz) (some (Hz [⟨1,3,[]⟩,⟨3,0,[]⟩,⟨1,3,[]⟩] 0 1 0)) 21):=R7;conv=>whnf
 refine O2 (i:=0) (t:=1) R7 (by decide) (K6 rfl (by decide)) (Ph rfl (by decide)) rfl (by decide) rfl ?_;conv=>whnf
 refine aM true ?_;conv=>whnf
 refine Ax (i:=1) (e:=0) (j':=Hz [⟨1,2,[]⟩,⟨3,0,[]⟩,⟨1,3,[]⟩] 1 1 1) R7 (by decide) rfl rfl rfl fun h8 c8 R8=>?_;replace R8:RA h8 c8 r (PY [(1,0)] (some Tz) (some (Hz [⟨1,2,[]⟩,⟨3,0,[]⟩,⟨1,3,[]⟩] 1 1 1)) 21):=R8;conv=>whnf
 refine Ax (i:=1) (e:=0) (j':=Hz [⟨1,1,[]⟩,⟨3,0,[]⟩,⟨1,3,[]⟩] 2 1 2) R8 (by decide) rfl rfl rfl fun h9 c9 R9=>?_;replace R9:RA h9 c9 r (PY [(1,0)] (some Tz) (some (Hz [⟨1,1,[]⟩,⟨3,0,[]⟩,⟨1,3,[]⟩] 2 1 2)) 21):=R9;conv=>whnf
 refine Ax (i:=1) (e:=0) (j':=Hz [⟨3,0,[]⟩,⟨1,3,[]⟩] 3 1 3) R9 (by decide) rfl rfl rfl fun QL MX Y2=>?_;replace Y2:RA QL MX r (PY [(1,0)] (some Tz) (some (Hz [⟨3,0,[]⟩,⟨1,3,[]⟩] 3 1 3)) 21):=Y2;conv=>whnf
 refine D6 (i:=1) (m:=0) (j':=Hz [⟨3,0,[]⟩,⟨1,3,[]⟩] 3 0 0) Y2 (by decide) (by decide) rfl (by decide) (by decide) rfl fun Zt c11 Y3=>?_;replace Y3:RA Zt c11 r (PY [] (some Tz) (some (Hz [⟨3,0,[]⟩,⟨1,3,[]⟩] 3 0 0)) 21):=Y3;conv=>whnf
 refine EA (i:=1) (e:=0) (j':=Hz [⟨1,3,[]⟩] 3 0 0) Y3 (by decide) rfl rfl rfl fun h12 c12 TE=>?_;replace TE:RA h12 c12 r (PY [] (some Tz) (some (Hz [⟨1,3,[]⟩] 3 0 0)) 21):=TE;conv=>whnf
 refine FM (i:=0) TE (by decide) (K6 rfl (by decide)) (Ph rfl (by decide)) (.inr (by decide)) ?_;conv=>whnf
 refine aM true ?_;conv=>whnf
 refine KI (i:=0) TE (fun h=>by cases h) (by decide) (by decide) rfl ?_;conv=>whnf
 refine Ng (i:=0) TE (by decide) (by decide) rfl fun h13 c13 Y4=>?_;replace Y4:RA h13 c13 r (PY [] none (some (Hz [⟨1,3,[]⟩] 3 0 0)) 21):=Y4;conv=>whnf
 refine Hf (i:=0) (tE:=LA) (n:=21) Y4 (fun h=>by cases h) (by decide) rfl rfl rfl rfl rfl fun h14 c14 R14=>?_;conv=>whnf
 refine DP (i:=0) (tE:=LA) (n:=21) R14 (fun h=>by cases h) (by decide) rfl rfl rfl rfl rfl fun h15 c15 R15=>?_;conv=>whnf
 refine aA (z:=true) ?_;conv=>whnf
 subst hQ;rfl
def nz(l:List Nat):List Int:=l.map fun x:Nat=>(x:Int)
theorem Ak(l:List Nat):(nz l).length=l.length:=by simp[nz]
structure tG(h:Heap)(col:Nat→Nat)(p r k:Nat)(T:List Tk)(now:Int)(o:List Nat)(ov:AV):Prop where
 lt:p<h.next
 co:col p=200
 get:h.get p=some (.cells [.ptr r 0,.fz k (ey T),.int .i64 now,ov] true 0)
 row:(o=[]∧ov=.aH)∨∃b,ov=.sl b 0 o.length o.length true∧b<h.next∧col b=201∧h.get b=some (.cells (ints (nz o)) true 1)
section
variable {h h':Heap} {col aK:Nat→Nat} {p r k:Nat} {T:List Tk} {now:Int} {o:List Nat} {ov:AV} {Q:AV→Heap→Prop} {st:St}
theorem tG.keep{K:Nat→Prop}(P:tG h col p r k T now o ov)(f:Kc h h' col aK K)(h1:¬K 200)(h2:¬K 201):tG h' aK p r k T now o ov:=by
 refine⟨Nat.lt_of_lt_of_le P.lt f.next,(f.col p P.lt).trans P.co,(f.keep p P.lt (by rw[P.co];exact h1)).trans P.get,?_⟩;rcases P.row with h|⟨b,a1,a2,a3,a4⟩
 ·exact .inl h
 ·exact .inr ⟨b,a1,Nat.lt_of_lt_of_le a2 f.next,(f.col b a2).trans a3,(f.keep b a2 (by rw[a3];exact h2)).trans a4⟩
theorem tG.nil(P:tG h col p r k T now o ov)(f:Fr h h' []):tG h' col p r k T now o ov:=P.keep (K:=fun _=>False) (Kc.same f) id id
theorem tG.rk(P:tG h col p r k T now o ov)(f:Kc h h' col aK RK):tG h' aK p r k T now o ov:=P.keep f (fun h=>by have:=h.2;omega) (fun h=>by have:=h.2;omega)
theorem RA.pk{K:Nat→Prop}(R:RA h col r st)(f:Kc h h' col aK K)(hK:∀n,K n→200≤n):RA h' aK r st:=
 R.keep f (fun n h1 h2 h=>by have:=hK n h;omega) (fun i hi h=>by have:=hK _ h;omega)
theorem tG.len(P:tG h col p r k T now o ov):pV .bX [ov]=some (.int .i64 ((o.length:Nat):Int)):=by
 rcases P.row with⟨rfl,rfl⟩|⟨b,rfl,_⟩<;>rfl
theorem tG.at(P:tG h col p r k T now o ov){i:Nat}(hi:i<o.length):∃b,pV (.aG 1) [ov,.int .i64 ((i:Nat):Int)]=some (.ptr b (i*1))∧rV .bY [.ptr b (i*1)] h=some (.int .i64 ((o[i]:Nat):Int)):=by
 rcases P.row with⟨h,_⟩|⟨b,rfl,a2,a3,a4⟩
 ·rw[h] at hi;simp at hi
 ·refine⟨b,bL hi,bU a4 ?_⟩;rw[Nat.mul_one,ints,nz,List.map_map,List.getElem?_map,List.getElem?_eq_getElem hi];rfl
theorem Of{i:Nat}{j:Jb}(R:RA h col r st)(hj:bC st.j i j)(hlt:i<st.T.length)(hQ:∀h',Fr h h' []→Q (.bool (!uY j.l)) h'):VD fs ms 45 [.ptr r 0,.int .i64 ((i:Nat):Int)] h Q:=by
 refine ak (af:=Wr) true rfl (Nat.le_of_ble_eq_true rfl) ?_;conv=>whnf
 refine OC R (fun hn=>(hn (cV hlt hj)).elim) (fun n jn ht hjn h1 iX=>?_);have hni:n=i:=by omega
 subst hni;have GG:j=jn:=bC.eq (js:=st.j) hj hjn;subst GG;conv=>whnf
 refine dV (cj ai rfl (Nat.le_refl _) rfl) fun h2 e2=>?_;have jx:Fr h h2 []:=by rw[e2];exact(iX.new (x:=_)).qS iX.next
 have g2:h2.get h1.next=some (.cells (op (j.l.headD Fj)).cells true 0):=by rw[e2];exact aC
 clear e2;conv=>whnf
 cases hl:j.l with
 |nil=>
  rw[hl] at hQ;conv=>whnf
  exact hQ _ jx
 |cons x l=>
  rw[hl] at hQ g2;conv=>whnf
  refine⟨_,bU g2 rfl,?_⟩;conv=>whnf
  exact hQ _ jx
end
section
variable {h h' h0:Heap} {col aK:Nat→Nat} {p r k:Nat} {T:List Tk} {now:Int} {o:List Nat} {ov:AV} {st:St}
def uD(o:List Nat)(t:Nat):List Nat:=o.filter fun x=>!(x==t)
theorem Gv{i t:Nat}(hi:i<o.length):uD (o.take (i+1)) t=uD (o.take i) t++(if o[i]=t then [] else [o[i]]):=by
 rw[uD,gy hi,List.filter_append]
 congr 1
 by_cases e:o[i]=t<;>simp[e]
theorem QJ{t B:Nat}{Q:AX→Env→Heap→Prop}(P:tG h0 col p r k T now o ov)(hl:o.length≤1000)(hQ:∀h v e,jU h0.next h v (nz (uD o t))→Fr h0 h []→bZ e [(0,.ptr p 0),(4,v)]→Q (.exit 0) e h):
  ∀(m i:Nat) (h:Heap) (v:AV) (env:Env),o.length-i=m→i≤o.length→jU h0.next h v (nz (uD (o.take i) t))→Fr h0 h []→
   bZ env [(0,.ptr p 0),(1,.int .i64 ((t:Nat):Int)),(4,v),(5,.int .i64 ((i:Nat):Int))]→VC fs ms B false (.loop fE) env h Q:=by
 intro m;induction m using Nat.strongRecOn with
 |ind m ih=>
 intro i h v env hm hi hr fr fO;have P1:=P.nil fr;refine aE 5 _ fO ?_;refine dm (z:=true) ?_;conv=>whnf
 refine⟨_,bU P1.get rfl,?_⟩;conv=>whnf
 refine eE P1.len ?_;conv=>whnf
 refine br (fun hc=>?_) (fun hc=>?_)<;>(try rw[hc])<;>(conv=>whnf)
 ·have hlt:i<o.length:=by have:=of_decide_eq_true hc;omega
  obtain⟨b,a1,a2⟩:=P1.at hlt;repeat(first|(refine⟨_,bU P1.get rfl,?_⟩;conv=>whnf))
  refine⟨_,a1,?_⟩;conv=>whnf
  refine⟨_,a2,?_⟩;conv=>whnf
  have m0:=Gv (t:=t) hlt;refine br (fun hc=>?_) (fun hc=>?_)<;>(try rw[hc])<;>(conv=>whnf)
  ·have hne:o[i]≠t:=by
    intro e;rw[e] at hc;simp at hc
   rw[if_neg hne] at m0;repeat(first|(refine⟨_,bU P1.get rfl,?_⟩;conv=>whnf))
   refine⟨_,a1,?_⟩;conv=>whnf
   refine⟨_,a2,?_⟩;conv=>whnf
   have hlen:(nz (uD (o.take i) t)).length≤1048576:=by
    rw[Ak];have:(uD (o.take i) t).length≤(o.take i).length:=List.length_filter_le ..;rw[List.length_take] at this;omega
   obtain⟨v',g',b1,b2,b3,b4,b5⟩:=hr.app fr.next hlen ((o[i]:Nat):Int);refine⟨_,_,b1,?_⟩;conv=>whnf
   refine ih (o.length-(i+1)) (by omega) (i+1) _ _ _ rfl (by omega) (by rw[m0,nz,List.map_append];exact b2) ⟨Nat.le_trans fr.next b3,fun c hc _=>(b4 c (Nat.lt_of_lt_of_le hc fr.next) (hr.off (.inl hc))).trans (fr.keep c hc (by simp))⟩ ⟨rfl,rfl,rfl,aL (by omega),trivial⟩
  ·have he:o[i]=t:=by
    simp at hc;omega
   rw[if_pos he,List.append_nil] at m0;exact ih (o.length-(i+1)) (by omega) (i+1) _ _ _ rfl (by omega) (by rw[m0];exact hr) fr ⟨rfl,rfl,rfl,aL (by omega),trivial⟩
 ·have hge:i=o.length:=by have:=of_decide_eq_false hc;omega
  subst hge;rw[List.take_length] at hr;exact hQ _ _ _ hr fr ⟨rfl,rfl,trivial⟩
theorem I9{t:Nat}{Q:AV→Heap→Prop}(P:tG h col p r k T now o ov)(hl:o.length≤1000)(hQ:∀h' aK v' w,tG h' aK p r k T now (uD o t) v'→Kc h h' col aK (· =200)→Q w h'):VD fs ms 44 [.ptr p 0,.int .i64 ((t:Nat):Int)] h Q:=by
 refine dz (af:=Wq) rfl (Nat.le_of_ble_eq_true rfl) ?_;conv=>whnf
 refine aM true ?_;conv=>whnf
 refine bt (aM true ?_);conv=>whnf
 refine bR ?_;refine QJ P hl ?_ o.length 0 h .aH _ rfl (Nat.zero_le _) (.inl ⟨rfl,rfl⟩) (Fr.refl _ _) ⟨rfl,rfl,rfl,rfl,trivial⟩;intro h1 v e hr fr he;refine aE 3 _ he (aA (z:=true) ?_);conv=>whnf
 have P1:=P.nil fr;have hv:v.cells=[v]∧v.flat=true:=by
  rcases hr with⟨_,rfl⟩|⟨b,_,_,rfl,_⟩<;>exact⟨rfl,rfl⟩
 refine dV (cj (o:=0+3) (n:=1) P1.get (by rw[hv.1];rfl) (Nat.le_of_ble_eq_true rfl) (by rw[hv.1];show cond v.flat _ _=_;rw[hv.2];rfl)) fun h2 e2=>?_;rw[hv.1] at e2;conv=>whnf
 have f1:Kc h h2 col (dg col h.next 201) (· =200):=by
  refine⟨by rw[e2];exact fr.next,fun c hc hn=>?_,fun c hc=>cJ hc⟩;rw[e2,aQ (by intro e;rw[e,P.co] at hn;exact hn rfl)];exact fr.keep c hc (by simp)
 refine hQ h2 (dg col h.next 201) v _ ⟨by rw[e2];exact P1.lt,(cJ P.lt).trans P.co,by rw[e2];exact aC,?_⟩ f1;rcases hr with⟨vg,q6⟩|⟨b,a1,a2,a3,a4⟩
 ·left;refine⟨?_,q6⟩;have:=congrArg List.length vg;rw[Ak] at this;exact List.length_eq_zero_iff.1 this
 ·right;rw[Ak] at a3;refine⟨b,a3,by rw[e2];exact a2,dL a1,?_⟩;have:=P.lt;rw[e2,aQ (by omega)];exact a4
theorem jU.W4{lo:Nat}{h:Heap}{v:AV}{l:List Int}(hr:jU lo h v l){i:Nat}(hi:i<l.length):∃b,pV (.aG 1) [v,.int .i64 ((i:Nat):Int)]=some (.ptr b (i*1))∧rV .bY [.ptr b (i*1)] h=some (.int .i64 l[i]):=by
 obtain⟨b,h1,h2⟩:=hr.read.2 i hi;refine⟨b,h1,?_⟩;rw[h2,List.getD_eq_getElem?_getD,List.getElem?_eq_getElem hi];rfl
theorem KB{lo B i:Nat}{x:Int}{v:AV}{l:List Int}{Q:AX→Env→Heap→Prop}(hr:jU lo h v l)(hl:l.length≤1000)
  (h0:x∉l→∀e,bZ e [(0,.ptr p 0),(1,.int .i64 x),(6,.int .i64 ((i:Nat):Int))]→Q (.exit 2) e h)(h1:x∈l→∀e,bZ e [(4,.int .i64 ((i:Nat):Int)),(5,.bool true)]→Q .ret e h):
  ∀(m n:Nat) (env:Env),l.length-n=m→n≤l.length→x∉l.take n→bZ env [(0,.ptr p 0),(1,.int .i64 x),(6,.int .i64 ((i:Nat):Int)),(7,v),(8,.int .i64 ((n:Nat):Int))]→
   VC fs ms B false (.loop fG) env h Q:=by
 intro m;induction m using Nat.strongRecOn with
 |ind m ih=>
 intro n env hm hn hno fO;refine aE 4 _ fO ?_;refine dm (z:=true) ?_;conv=>whnf
 refine eE hr.read.1 ?_;conv=>whnf
 refine br (fun hc=>?_) (fun hc=>?_)<;>(try rw[hc])<;>(conv=>whnf)
 ·have hlt:n<l.length:=by have:=of_decide_eq_true hc;omega
  obtain⟨b,a1,a2⟩:=jU.W4 hr hlt;refine⟨_,a1,?_⟩;conv=>whnf
  refine⟨_,a2,?_⟩;conv=>whnf
  refine br (fun hc=>?_) (fun hc=>?_)<;>(try rw[hc])<;>(conv=>whnf)
  ·exact h1 (by rw[←eq_of_beq hc];exact List.getElem_mem hlt) _ ⟨rfl,rfl,trivial⟩
  ·refine ih (l.length-(n+1)) (by omega) (n+1) _ rfl (by omega) ?_ ⟨rfl,rfl,rfl,rfl,aL (by omega),trivial⟩;rw[gy hlt,List.mem_append,List.mem_singleton];rintro(h|h)
   ·exact hno h
   ·rw[←h] at hc;simp at hc
 ·have hge:n=l.length:=by have:=of_decide_eq_false hc;omega
  rw[hge,List.take_length] at hno;exact h0 hno _ ⟨rfl,rfl,rfl,trivial⟩
theorem IM{a b:Nat}{u v:AV}{e:Env}{h:Heap}{Q:AV→Heap→Prop}(h1:Tr.get e a=some u)(h2:Tr.get e b=some v)(hq:Q (.cD [u,v]) h):uT [.tmp a,.tmp b] Q .ret e h:=by
 simp only[uT,eH,oD,h1,h2];exact hq
theorem j7{i:Nat}{Q:AV→Heap→Prop}(R:RA h col r st)(hL:st.L.length≤1000)(hi:i<st.T.length)
  (hQ:∀h' v l,jU h.next h' v l→Fr h h' []→(∀x,x∈l↔∃j,bC st.j i j∧x∈aU st.L i)→l.length≤st.L.length→(∀j,bC st.j i j→l=aU st.L i)→Q v h'):VD fs ms 14 [.ptr r 0,.int .i64 ((i:Nat):Int)] h Q:=by
 refine Oy R hL (fun hn=>?_) (fun n j ht hj h' v hr fr=>?_)
 ·refine hQ h .aH [] (.inl ⟨rfl,rfl⟩) (Fr.refl _ _) (fun x=>⟨fun h=>by simp at h,fun⟨j,hj,_⟩=>(hn (cV hi hj)).elim⟩) (Nat.zero_le _) (fun j hj=>(hn (cV hi hj)).elim)
 ·have:n=i:=by omega
  subst this;exact hQ h' v _ hr fr (fun x=>⟨fun h=>⟨j,hj,h⟩,fun⟨_,_,h⟩=>h⟩) (Bw _ _) (fun _ _=>rfl)
theorem On{B:Nat}{x:Int}{Q:AX→Env→Heap→Prop}(P:tG h0 col p r k st.T now o ov)(R:RA h0 col r st)(hL:st.L.length≤1000)(hT:st.T.length≤4)
  (q0:(∀(i:Nat) (j:Jb),i<st.T.length→bC st.j i j→x∉aU st.L i)→∀h e,Fr h0 h []→Q (.exit 0) e h)
  (q1:∀(i:Nat) (j:Jb),i<st.T.length→bC st.j i j→x∈aU st.L i→∀h e,Fr h0 h []→bZ e [(4,.int .i64 ((i:Nat):Int)),(5,.bool true)]→Q .ret e h):
  ∀(m i:Nat) (h:Heap) (env:Env),st.T.length-i=m→i≤st.T.length→Fr h0 h []→(∀(n:Nat) (j:Jb),n<i→bC st.j n j→x∉aU st.L n)→
   bZ env [(0,.ptr p 0),(1,.int .i64 x),(6,.int .i64 ((i:Nat):Int))]→VC fs ms B false (.loop fF) env h Q:=by
 intro m;induction m using Nat.strongRecOn with
 |ind m ih=>
 intro i h env hm hi fr hno fO;have P1:=P.nil fr;have R1:=R.nil fr;refine aE 3 _ fO ?_;refine mA (aM true ?_);conv=>whnf
 repeat(first|(refine⟨_,bU P1.get rfl,?_⟩;conv=>whnf))
 rw[bB];refine br (fun hc=>?_) (fun hc=>?_)<;>(try rw[hc])<;>(conv=>whnf)
 ·have hlt:i<st.T.length:=by have:=of_decide_eq_true hc;omega
  refine bt (bR (aM true ?_));conv=>whnf
  repeat(first|(refine⟨_,bU P1.get rfl,?_⟩;conv=>whnf))
  refine j7 R1 hL hlt fun h1 v l hr iX hx hl _=>?_;conv=>whnf
  refine aM true ?_;conv=>whnf
  refine bR ?_;refine KB (x:=x) (i:=i) hr (by omega) (fun hn e he=>?_) (fun hn e he=>?_) l.length 0 _ rfl (Nat.zero_le _) (by simp) ⟨rfl,rfl,rfl,rfl,rfl,trivial⟩
  ·show VC fs ms _ _ _ _ _ _;refine aE 3 _ he (aA (z:=true) ?_);conv=>whnf
   refine ih (st.T.length-(i+1)) (by omega) (i+1) _ _ rfl (by omega) (fr.trans iX) (fun n j hn' hj=>?_) ⟨rfl,rfl,aL (by omega),trivial⟩;by_cases e:n=i
   ·subst e;exact fun h=>hn ((hx x).2 ⟨j,hj,h⟩)
   ·exact hno n j (by omega) hj
  ·obtain⟨j,hj,h⟩:=(hx x).1 hn;exact q1 i j hlt hj h _ _ (fr.trans iX) he
 ·have hge:i=st.T.length:=by have:=of_decide_eq_false hc;omega
  exact q0 (fun n j hn hj=>hno n j (by omega) hj) _ _ fr
theorem Om{x:Int}{Q:AV→Heap→Prop}(P:tG h col p r k st.T now o ov)(R:RA h col r st)(hL:st.L.length≤1000)(hT:st.T.length≤4)
  (q0:(∀(i:Nat) (j:Jb),i<st.T.length→bC st.j i j→x∉aU st.L i)→∀h',Fr h h' []→Q (.cD [.int .i64 0,.bool false]) h')
  (q1:∀(i:Nat) (j:Jb),i<st.T.length→bC st.j i j→x∈aU st.L i→∀h',Fr h h' []→Q (.cD [.int .i64 ((i:Nat):Int),.bool true]) h'):
  VD fs ms 43 [.ptr p 0,.int .i64 x] h Q:=by
 refine dz (af:=Wp) rfl (Nat.le_of_ble_eq_true rfl) ?_;conv=>whnf
 refine aM true ?_;conv=>whnf
 refine bt (aM true ?_);conv=>whnf
 refine bR ?_;refine On P R hL hT (fun hn h1 e fr=>?_) (fun i j hi hj hx h1 e fr he=>?_) st.T.length 0 _ _ rfl (Nat.zero_le _) (Fr.refl _ _) (fun n j hn=>by omega) ⟨rfl,rfl,rfl,trivial⟩
 ·refine aE 0 [] trivial (aA (z:=true) ?_);conv=>whnf
  exact q0 hn _ fr
 ·exact IM he.1 he.2.1 (q1 i j hi hj hx _ fr)
end
structure Pl(h:Heap)(col:Nat→Nat)(p r k:Nat)(st:St)(now:Int)(R:List Nat)(o:List Nat):Prop where
 W4:∃ov,tG h col p r k st.T now o ov
 room:RA h col r st
 inv:Inv st.T st.j st.L now R o
def PK(n:Nat):Prop:=RK n∨n=200∨n=201∨n=300
def tD:Op:=⟨1,64,[]⟩
theorem Pl.nil{h h':Heap}{col:Nat→Nat}{p r k:Nat}{st:St}{now:Int}{R o:List Nat}(P:Pl h col p r k st now R o)(f:Fr h h' []):Pl h' col p r k st now R o:=
 ⟨P.W4.imp fun _ a=>a.nil f,P.room.nil f,P.inv⟩
section
variable {h h' h0:Heap} {col aK:Nat→Nat} {p r k:Nat} {now:Int} {R o:List Nat} {st:St} {Q:AV→Heap→Prop}
theorem sG{t:Nat}{e:Env}{h:Heap}{Q:AV→Heap→Prop}{v:AV}(hg:Tr.get e t=some v)(hq:Q v h):uT [.tmp t] Q .ret e h:=by
 simp only[uT,eH,oD,hg];exact hq
theorem r6{x n:Int}(h:0≤x)(hn:0<n):pV (.bin .rem) [.int .i64 x,.int .i64 n]=some (.int .i64 (x%n)):=by
 rw[Ft _ _ (by omega),Int.tmod_eq_emod_of_nonneg h]
theorem Ap{x n:Int}(h:0≤x)(hx:x<1048576)(hn:0<n):pV (.bin .quo) [.int .i64 x,.int .i64 n]=some (.int .i64 (x/n)):=by
 rw[Fp _ _ (by omega),Int.tdiv_eq_ediv_of_nonneg h,IntWalk.i64_in];have:=Int.ediv_nonneg h (Int.le_of_lt hn);have:=Int.ediv_le_self n h;omega
theorem tG.push{T:List Tk}{ov:AV}(P:tG h col p r k T now o ov)(hl:o.length≤1000)(a:Nat):∃v' g',eV (.append 1 8) [ov,.sl h.next 0 1 1 false] (h.new (.cells [.int .i64 ((a:Nat):Int)] true 0))=some (v',g')∧v'.cells=[v']∧v'.flat=true∧
  g'.get p=some (.cells [.ptr r 0,.fz k (ey T),.int .i64 now,ov] true 0)∧∀g2,g2=g'.set p (.cells [.ptr r 0,.fz k (ey T),.int .i64 now,v'] true 0)→tG g2 (dg col h.next 201) p r k T now (o++[a]) v'∧Kc h g2 col (dg col h.next 201) (fun n=>n=200∨n=201):=by
 have hsrc:eJ 1 (h.new (.cells [.int .i64 ((a:Nat):Int)] true 0)) (.sl h.next 0 1 1 false)=some (1,[.int .i64 ((a:Nat):Int)]):=tu ai rfl;have plt:=P.lt;have fin:∀(g':Heap),h.next+1<g'.next→g'.get (h.next+1)=some (.cells (ints (nz (o++[a]))) true 1)→(∀c,c<h.next→col c≠201→g'.get c=h.get c)→
   g'.get p=some (.cells [.ptr r 0,.fz k (ey T),.int .i64 now,ov] true 0)∧∀g2,g2=g'.set p (.cells [.ptr r 0,.fz k (ey T),.int .i64 now,.sl (h.next+1) 0 (o.length+1) (o.length+1) true] true 0)→
    tG g2 (dg col h.next 201) p r k T now (o++[a]) (.sl (h.next+1) 0 (o.length+1) (o.length+1) true)∧Kc h g2 col (dg col h.next 201) (fun n=>n=200∨n=201):=by
  intro g' n1 n2 n3;refine⟨(n3 p plt (by rw[P.co];decide)).trans P.get,fun g2 e2=>⟨⟨by rw[e2];show p<g'.next;omega,(cJ plt).trans P.co,by rw[e2];exact aC,.inr ⟨h.next+1,by rw[List.length_append];rfl,by rw[e2];exact n1,dL (Nat.le_succ _),?_⟩⟩,?_,fun c hc hn=>?_,fun c hc=>cJ hc⟩⟩
  ·rw[e2,aQ (by omega)];exact n2
  ·rw[e2];show h.next≤g'.next;omega
  ·rw[e2,aQ (by intro e;rw[e,P.co] at hn;exact hn (.inl rfl))];exact n3 c hc (fun h=>hn (.inr h))
 have ei:ints (nz o)++[.int .i64 ((a:Nat):Int)]=ints (nz (o++[a])):=by rw[nz,nz,ints,ints,List.map_append,List.map_append];rfl
 rcases P.row with⟨h1,h2⟩|⟨b,h1,h2,h3,h4⟩
 ·subst h1 h2;exact⟨_,_,lD (nx:=h.next+1) (by omega) hsrc rfl,rfl,rfl,fin _ (Nat.lt_succ_self _) (ai (h:=h.new (.cells [.int .i64 ((a:Nat):Int)] true 0))) (fun c hc _=>(ay (h:=h.new (.cells [.int .i64 ((a:Nat):Int)] true 0)) (show c<h.next+1 by omega)).trans (ay hc))⟩
 ·subst h1;have hg:(h.new (.cells [.int .i64 ((a:Nat):Int)] true 0)).get b=some (.cells (ints (nz o)) true 1):=by rw[ay h2];exact h4
  refine⟨_,_,oX hg (by rw[cm,Ak,Nat.mul_one]) hsrc rfl (by omega) (by omega),rfl,rfl,fin _ (Nat.lt_succ_self _) ?_ (fun c hc hn=>?_)⟩
  ·rw[←ei];exact ai (h:=(h.new (.cells [.int .i64 ((a:Nat):Int)] true 0)).del b)
  ·have hne:c≠b:=by rintro rfl;exact hn h3
   exact(ay (h:=(h.new (.cells [.int .i64 ((a:Nat):Int)] true 0)).del b) (show c<h.next+1 by omega)).trans ((eD hne).trans (ay hc))
theorem N7{T:List Tk}{L:List En}{t r:Int}(h:jq T L t r=131):∃x∈L,x.2=r:=by
 rw[jq] at h;split at h
 ·rename_i h1;rw[h] at h1;rw[eR] at h;split at h<;>cases h
 ·split at h
  ·cases h
  ·split at h
   ·rename_i h3;obtain⟨x,hx,h4⟩:=List.any_eq_true.1 h3;exact⟨x,hx,eq_of_beq h4⟩
   ·split at h<;>cases h
theorem PM{T:List Tk}{L:List En}{t r:Int}(h:jq T L t r=0):uses T t r=true:=by
 rw[jq] at h;split at h
 ·rename_i h1;rw[h] at h1;cases h1
 ·split at h
  ·cases h
  ·rename_i h2;simpa using h2
theorem GX:∀(n:Nat) (l:List Nat),l.Nodup→(∀x∈l,x<n)→l.length≤n:=pig
theorem Sk.nodup{T:List Tk}{js:Js}:∀{R:List Nat} {L:List En} {o:List Nat},Sk T js R L o→R.Nodup∧o.Nodup
 |[],L,o,h=>by rw[h.2];exact⟨.nil,.nil⟩
 |a::R,L,o,⟨L0,L1,o0,h1,h2,h3,h4,h5,h6,h7⟩=>by
  obtain⟨n1,n2⟩:=h7.nodup;refine⟨List.nodup_cons.2 ⟨h5,n1⟩,?_⟩;rw[h2,List.nodup_append];refine⟨n2,by cases L1.isEmpty<;>simp,fun x hx y hy e=>?_⟩;subst e;have:x=a:=by cases hl:L1.isEmpty<;>rw[hl] at hy<;>simp at hy<;>exact hy
  subst this;exact h5 (h7.DE x hx)
theorem Inv.Kw{T:List Tk}{js:Js}{L:List En}{now:Int}{R o:List Nat}(I:Inv T js L now R o):o.length≤4:=
 GX 4 o I.sk.nodup.2 fun x hx=>by
  obtain⟨j,hj⟩:=I.rj x (I.sk.DE x hx);have:=I.lt hj;have:=I.n4;omega
theorem v8{L:List En}{t x:Int}:x∈aU L t↔(t,x)∈L:=by
 simp[aU]
theorem step_end{B:Nat}(e:Env)(g:Heap){Q:AV→Heap→Prop}(hq:Q (.bool true) g):VC fs ms B false (.seq (.ops [zP 4 .Ly [.c (.bool true)]]) .ret) e g (uT [.tmp 4] Q):=by
 refine aE 0 [] trivial (aA (z:=true) ?_);conv=>whnf
 exact hq
theorem D0{x:Int}(hx0:0≤x)(hx:x<9600)(P:Pl h col p r k st now R o)(hk:k=3→st.T=[])(hn0:0≤now)(hn:now≤500)
  (q0:x%3=0→st.T≠[]→∀h' aK,Pl h' aK p r k st now R o→Kc h h' col aK PK→Q (.bool true) h')
  (q1:x%3=0→st.T≠[]→∀(i:Nat) (tk:Tk) (g:List Int),((i:Nat):Int)=x/3%st.T.length→st.T[i]?=some tk→st.j[i]?=some none→IntKind.i64.wrap (now+tk.d)=now+tk.d→∀h' aK,Pl h' aK p r k {st with j:=st.j.set i (some (mH tk [tD] now)),g:=g} now R o→Kc h h' col aK PK→Q (.bool true) h')
  (q2:¬(x%3=0∧st.T≠[])→∀h' aK tC L' R' o',Mv st.T st.j st.L R tC L' R'→Pl h' aK p r k {st with j:=tC,L:=L'} (now+1) R' o'→Kc h h' col aK PK→Q (.bool true) h'):
  VD fs ms 11 [.ptr p 0,.int .i64 x] h Q:=by
 obtain⟨⟨ov,PA⟩,RM,I⟩:=P;refine dz (af:=V3) rfl (Nat.le_of_ble_eq_true rfl) ?_;conv=>whnf
 refine aM true ?_;conv=>whnf
 refine bt (VC.mono (Q:=fun x' e' h'=>(x'=.normal∧bZ e' [(0,.ptr p 0),(1,.int .i64 x)]∧h'=h∧¬(x%3=0∧st.T≠[]))∨(x'=.ret∧uT [.tmp 4] Q .ret e' h')) (aA (z:=true) ?_) ?_)
 ·conv=>whnf
  refine⟨_,r6 hx0 (by decide),?_⟩;conv=>whnf
  refine br (fun hc=>?_) (fun hc=>?_)<;>(try rw[hc])<;>(conv=>whnf)
  ·have h3:x%3=0:=eq_of_beq hc;repeat(first|(refine⟨_,bU PA.get rfl,?_⟩;conv=>whnf))
   rw[bB];refine br (fun hc=>?_) (fun hc=>?_)<;>(try rw[hc])<;>(conv=>whnf)
   ·have hT:0<st.T.length:=by have:=of_decide_eq_true hc;omega
    have x3:=Ap hx0 (by omega) (show(0:Int)<3 by decide);have V1:0≤x/3:=Int.ediv_nonneg hx0 (by decide);have Ul:(0:Int)<((st.T.length:Nat):Int):=by omega
    obtain⟨i,hi⟩:∃i:Nat,((i:Nat):Int)=x/3%((st.T.length:Nat):Int):=⟨(x/3%((st.T.length:Nat):Int)).toNat,Int.toNat_of_nonneg (Int.emod_nonneg _ (by omega))⟩;have ZT:i<st.T.length:=by have:=Int.emod_lt_of_pos (x/3) Ul;omega
    have xr:=r6 V1 Ul;rw[←hi] at xr;repeat(first|(refine⟨_,bU PA.get rfl,?_⟩;conv=>whnf)|(refine⟨_,x3,?_⟩;conv=>whnf))
    rw[bB];refine⟨_,xr,?_⟩;conv=>whnf
    have iX:Fr h (h.new (.cells (op tD).cells true 0)) []:=(Fr.refl h []).new;have g1:(h.new (.cells (op tD).cells true 0)).get h.next=some (.cells (aa (ops [tD])) true 0):=ai;have k1:Kc h (h.new (.cells (op tD).cells true 0)) col (dg col h.next 300) PK:=Kc.nil iX 300;have c1:dg col h.next 300 h.next=300:=dL (Nat.le_refl _);have R1:RA (h.new (.cells (op tD).cells true 0)) (dg col h.next 300) r st:=RM.keep (K:=fun _=>False) (Kc.nil iX 300) (fun _ _ _ h=>h) (fun _ _ h=>h);have P1:tG (h.new (.cells (op tD).cells true 0)) (dg col h.next 300) p r k st.T now o ov:=PA.keep (K:=fun _=>False) (Kc.nil iX 300) id id;generalize dg col h.next 300=iL at*;refine⟨_,bU (PA.nil iX).get rfl,?_⟩;conv=>whnf
    have P2:∀{h':Heap} {aK:Nat→Nat},Kc (h.new (.cells (op tD).cells true 0)) h' iL aK Ee→tG h' aK p r k st.T now o ov∧Kc h h' col aK PK:=fun f=>
     ⟨P1.keep f (fun h=>by rcases h with⟨_,h⟩|h<;>omega) (fun h=>by rcases h with⟨_,h⟩|h<;>omega),k1.trans (f.wk fun n h=>h.imp id fun h=>.inr (.inr h))⟩
    have Xh:st.T≠[]:=by intro e;rw[e] at hT;simp at hT
    refine KN (l:=[tD]) (B:=h.next) R1 (by decide) (Nat.lt_succ_self _) c1 g1 (fun ha=>?_) (fun n j hn hj=>?_) (fun n tk hn ht hj he h' aK R2 f=>?_) (fun n tk g hn ht hj he hg ha h' aK R2 f=>?_) (fun n tk g hn ht hj he hg ha h' aK R2 f=>?_)
    ·exact absurd (by rw[eR,decide_eq_false (by omega),decide_eq_false (by omega)];rfl) ha
    ·conv=>whnf
     exact .inr ⟨rfl,sG rfl (q0 h3 Xh _ _ ⟨⟨ov,P1⟩,R1,I⟩ k1)⟩
    ·conv=>whnf
     obtain⟨a,b⟩:=P2 f;exact .inr ⟨rfl,sG rfl (q0 h3 Xh _ _ ⟨⟨ov,a⟩,R2,I⟩ b)⟩
    ·conv=>whnf
     obtain⟨a,b⟩:=P2 f;exact .inr ⟨rfl,sG rfl (q0 h3 Xh _ _ ⟨⟨ov,a⟩,R2,I⟩ b)⟩
    ·conv=>whnf
     obtain⟨a,b⟩:=P2 f;exact .inr ⟨rfl,sG rfl (q1 h3 Xh n tk _ (by rw[←hi];omega) ht hj (Ad he).2.2.2.2 h' aK ⟨⟨ov,a⟩,R2,I.rel hj ht rfl rfl rfl (Ad he).2.2.2.2⟩ b)⟩
   ·refine .inl ⟨rfl,⟨rfl,rfl,trivial⟩,rfl,fun h=>?_⟩;have:0<st.T.length:=List.length_pos_iff.2 h.2;have:=of_decide_eq_false hc;omega
  ·have h3:¬x%3=0:=by intro h;rw[h] at hc;simp at hc
   exact .inl ⟨rfl,⟨rfl,rfl,trivial⟩,rfl,fun h=>h3 h.1⟩
 ·rintro x' e' h' (⟨rfl,he,rfl,hno⟩|⟨rfl,hq⟩)
  ·show VC fs ms _ _ _ _ _ _;refine aE 6 _ he (aM true ?_);conv=>whnf
   refine⟨_,bU PA.get rfl,?_⟩;conv=>whnf
   refine dV (cj PA.get rfl (Nat.le_of_ble_eq_true rfl) rfl) fun h1 e1=>?_;conv=>whnf
   replace e1:h1=h'.set p (.cells [.ptr r 0,.fz k (ey st.T),.int .i64 (IntKind.i64.wrap (now+1)),ov] true 0):=e1;rw[IntWalk.i64_in (now+1) (by omega)] at e1;have Zl:Kc h' h1 col col (· =200):=⟨by rw[e1];exact Nat.le_refl _,fun c hc hn=>by rw[e1,aQ (by intro e;rw[e,PA.co] at hn;exact hn rfl)],fun _ _=>rfl⟩;have P1:tG h1 col p r k st.T (now+1) o ov:=by
    refine⟨by rw[e1];exact PA.lt,PA.co,by rw[e1];exact aC,?_⟩;rcases PA.row with h|⟨b,a1,a2,a3,a4⟩
    ·exact .inl h
    ·refine .inr ⟨b,a1,by rw[e1];exact a2,a3,?_⟩;rw[e1,aQ (by intro e;rw[e,PA.co] at a3;omega)];exact a4
   have MN:RA h1 col r st:=RM.pk Zl (fun n h=>by omega);have I1:=I.tick;have ks1:Kc h' h1 col col PK:=Zl.wk fun n h=>.inr (.inl h);clear e1 Zl;have hL:st.L.length≤900:=by have:=I.ln;omega
   have Dl:=I.n4;refine bt (VC.mono (Q:=fun x' e' g'=>x'=.normal∧g'=h1∧((∃(a:Nat) (R2:List Nat),bZ e' [(0,.ptr p 0),(1,.int .i64 x),(5,.int .i64 ((a:Nat):Int)),(6,.bool true)]∧FQ st.T st.j st.L R a R2∧Inv st.T st.j st.L (now+1) (a::R2) o)∨
    (bZ e' [(0,.ptr p 0),(1,.int .i64 x),(5,.int .i64 0),(6,.bool false)]∧∀i j,¬bC st.j i j))) (aA (z:=true) ?_) ?_)
   ·conv=>whnf
    repeat(first|(refine⟨_,bU P1.get rfl,?_⟩;conv=>whnf))
    refine vt MN hL (fun i j hj h2 _=>?_) (fun hno=>?_) (fun _ i j F hg=>?_) (fun _ i j F hg hl=>?_)
    ·rcases I.sec i j hj with h|h<;>omega
    ·conv=>whnf
     exact⟨rfl,rfl,.inr ⟨⟨rfl,rfl,rfl,rfl,trivial⟩,hno⟩⟩
    ·conv=>whnf
     obtain⟨R2,G,I2⟩:=I1.Bp F hg;exact⟨rfl,rfl,.inl ⟨i,R2,⟨rfl,rfl,rfl,rfl,trivial⟩,G,I2⟩⟩
    ·obtain⟨a,R2,ht,G,I2⟩:=I1.Bq F hl;rw[ht];conv=>whnf
     exact⟨rfl,rfl,.inl ⟨a,R2,⟨rfl,rfl,rfl,rfl,trivial⟩,G,I2⟩⟩
   ·rintro x' e' g' ⟨rfl,rfl,(⟨a,R2,he,G,I2⟩|⟨he,Re⟩)⟩
    ·show VC fs ms _ _ _ _ _ _;obtain⟨ja,jy⟩:=I2.rj a (by simp);have pH:=I2.lt jy;refine aE 6 _ he ?_;refine bt (aA (z:=true) ?_);conv=>whnf
     repeat(first|(refine⟨_,bU P1.get rfl,?_⟩;conv=>whnf))
     rw[bB];refine qm (decide_eq_false (by omega)) (fun hc=>?_)
     (try rw[hc])
     conv=>whnf
     refine aM true ?_;conv=>whnf
     refine⟨_,Ap hx0 (by omega) (show(0:Int)<24 by decide),?_⟩;conv=>whnf
     refine⟨_,r6 (Int.ediv_nonneg hx0 (by decide)) (show(0:Int)<4 by decide),?_⟩;conv=>whnf
     have y0:0≤x/24%4:=Int.emod_nonneg _ (by decide);have y4:x/24%4<4:=Int.emod_lt_of_pos _ (by decide);have z0:0≤x/3%8:=Int.emod_nonneg _ (by decide);have V1:=Ap hx0 (by omega) (show(0:Int)<3 by decide);have x31:=r6 (Int.ediv_nonneg hx0 (show(0:Int)≤3 by decide)) (show(0:Int)<8 by decide);generalize x/24%4=y at*;generalize x/3%8=z at*;refine bt (aM true ?_);conv=>whnf
     refine⟨_,V1,?_⟩;conv=>whnf
     refine⟨_,x31,?_⟩;conv=>whnf
     refine bR ?_;have Ls:∀{g:Heap} {c2:Nat→Nat} {tC:Js} {L':List En} {R' o':List Nat},Mv st.T st.j st.L R tC L' R'→Pl g c2 p r k {st with j:=tC,L:=L'} (now+1) R' o'→Kc g' g col c2 PK→Q (.bool true) g:=
      fun m P f=>q2 hno _ _ _ _ _ _ m P (ks1.trans f)
     refine bt (VC.mono (Q:=fun x' e' g=>x'=.normal∧g=g'∧∃b,bZ e' [(0,.ptr p 0),(5,.int .i64 ((a:Nat):Int)),(7,.int .i64 y),(89,.int .i64 z),(118,.bool b)]) (aA (z:=true) ?_) ?_)
     ·conv=>whnf
      refine br (fun hc=>?_) (fun hc=>?_)<;>(try rw[hc])<;>(conv=>whnf)
      ·exact⟨rfl,rfl,_,rfl,rfl,rfl,rfl,rfl,trivial⟩
      ·refine br (fun hc=>?_) (fun hc=>?_)<;>(try rw[hc])<;>(conv=>whnf)
       ·exact⟨rfl,rfl,_,rfl,rfl,rfl,rfl,rfl,trivial⟩
       ·exact⟨rfl,rfl,_,rfl,rfl,rfl,rfl,rfl,trivial⟩
     ·rintro x' e' g ⟨rfl,rfl,b,he⟩;show VC fs ms _ _ _ _ _ _;have Ke:∀g3,Fr g g3 []→Q (.bool true) g3:=fun g3 fr=>Ls (.inr ⟨a,R2,G,.inl ⟨rfl,JE.refl _,fun x h=>.inr h⟩⟩) ⟨⟨ov,P1.nil fr⟩,MN.nil fr,I2⟩ (Kc.same fr);cases b with
      |true=>
       refine aE 7 _ he (Cr ?_);conv=>whnf
       refine bt (VC.mono (Q:=fun x' e' g2=>x'=.normal∧Fr g g2 []∧∃(u:Int) (tk:Bool),bZ e' [(0,.ptr p 0),(5,.int .i64 ((a:Nat):Int)),(7,.int .i64 y),(8,.int .i64 u),(9,.bool tk)]∧
        (tk=true→∃(i:Nat) (j:Jb),u=((i:Nat):Int)∧bC st.j i j∧y∈aU st.L i)∧(tk=false→∀(i:Nat) (j:Jb),i<st.T.length→bC st.j i j→y∉aU st.L i)) (aA (z:=true) ?_) ?_)
       ·conv=>whnf
        refine Om P1 MN (by omega) Dl (fun hn g2 fr=>?_) (fun i j hi hj hm g2 fr=>?_)
        ·conv=>whnf
         exact⟨rfl,fr,0,false,⟨rfl,rfl,rfl,rfl,rfl,trivial⟩,(fun h=>by cases h),fun _=>hn⟩
        ·conv=>whnf
         exact⟨rfl,fr,_,true,⟨rfl,rfl,rfl,rfl,rfl,trivial⟩,fun _=>⟨i,j,rfl,hj,hm⟩,fun h=>by cases h⟩
       ·rintro x' e' g2 ⟨rfl,jx,u,tk,he,U4,ht2⟩;show VC fs ms _ _ _ _ _ _;have P2:=P1.nil jx;have WY:=MN.nil jx;obtain⟨t,hta⟩:∃t,st.T[a]?=some t:=⟨_,List.getElem?_eq_getElem pH⟩;have Lu:st.T[a]=t:=by rw[List.getElem?_eq_getElem pH] at hta;exact Option.some.inj hta
        have hus:uses st.T a y=decide (t.a/2^y.toNat%2=1):=FI ⟨by omega,by omega,y0,by omega⟩ (by rw[Int.toNat_natCast];exact hta);have hand:(IntKind.i64.wrap ((BitVec.ofInt 64 (t.a/2^y.toNat)&&&BitVec.ofInt 64 1).toNat:Int)==1)=uses st.T a y:=by rw[Y8,hus];rfl
        cases tk with
        |false=>
         have hnone:=ht2 rfl;refine aE 7 _ he (aA (z:=true) ?_);conv=>whnf
         repeat(first|(refine⟨_,bU P2.get rfl,?_⟩;conv=>whnf))
         refine wV WY hL (fun hn=>(hn (cV pH jy)).elim) (fun i j hi hj hs=>?_) (fun i j hi hj hs hne g3 jE=>?_) (fun i j hi hj hs hz g3 c3 R3 f3=>?_)
         ·rcases I.sec i j hj with h|h<;>omega
         ·have P3:=P2.nil jE;conv=>whnf
          repeat(first|(refine⟨_,bU P3.get rfl,?_⟩;conv=>whnf))
          refine⟨_,iH pH,?_⟩;conv=>whnf
          rw[Lu];refine⟨.int .i64 t.a,rfl,?_⟩;conv=>whnf
          refine⟨_,sB t.a y0 (by omega),?_⟩;conv=>whnf
          have hlf:=Ke g3 (jx.trans jE);cases hu:uses st.T a y with
          |false=>
           refine qm (hand.trans hu) (fun hc=>?_)
           (try rw[hc])
           conv=>whnf
           refine qm (by simpa using hne) (fun hc=>?_)
           (try rw[hc])
           conv=>whnf
           exact step_end _ _ hlf
          |true=>
           refine qO (hand.trans hu) (fun hc=>?_)
           (try rw[hc])
           conv=>whnf
           refine br (fun hc=>?_) (fun hc=>?_)<;>(try rw[hc])<;>(conv=>whnf)
           ·exfalso;obtain⟨x1,hx1,Xu⟩:=N7 (eq_of_beq hc);have hx3:x1.1=((a:Nat):Int):=I2.free hu (x:=y) (by rw[←Xu];exact hx1);refine hnone a ja pH jy (v8.2 ?_);rw[←Xu,←hx3];exact hx1
           ·refine qm (by simpa using hne) (fun hc=>?_)
            (try rw[hc])
            conv=>whnf
            exact step_end _ _ hlf
         ·have Ab:i=a:=by omega
          subst Ab;have GG:j=ja:=bC.eq (js:=st.j) hj jy;subst GG;have P3:=P2.rk f3;have Lw:Kc g g3 col c3 PK:=(Kc.same jx).trans (f3.wk fun n h=>.inl h);conv=>whnf
          repeat(first|(refine⟨_,bU P3.get rfl,?_⟩;conv=>whnf))
          refine⟨_,iH pH,?_⟩;conv=>whnf
          rw[Lu];refine⟨.int .i64 t.a,rfl,?_⟩;conv=>whnf
          refine⟨_,sB t.a y0 (by omega),?_⟩;conv=>whnf
          have hu:=PM hz;refine qO (hand.trans hu) (fun hc=>?_)
          (try rw[hc])
          conv=>whnf
          repeat(first|(refine⟨_,bU P3.get rfl,?_⟩;conv=>whnf))
          refine j7 R3 (by rw[List.length_append];exact Nat.le_trans (Nat.add_le_add_right hL 1) (by decide)) pH fun g4 v4 l4 NI jR _ hl4 Q0=>?_;have SX:l4=aU (st.L++[(((i:Nat):Int),y)]) i:=Q0 (tB j) (dw.2 (.inl ⟨rfl,(List.getElem?_eq_some_iff.1 jy).1,rfl⟩));have hlen:((l4.length:Nat):Int)=1↔aU st.L i=[]:=by
           rw[SX,pK,pJ (L:=[(((i:Nat):Int),y)]) (by simp),List.length_append];constructor
           ·intro h;simp at h;exact List.length_eq_zero_iff.1 (by omega)
           ·intro h;rw[h];rfl
          have I3:=I2.xU (j':=tB j) jy (by rw[tB];split<;>rfl) (by rw[tB];split<;>rfl) (by rw[tB];split;exact .inr rfl;exact I.sec i j jy) (fun _=>by simp) (I2.sk.lock y) (by rw[List.length_append];have:=I.ln;simp;omega);have M3:Mv st.T st.j st.L R (st.j.set i (some (tB j))) (st.L++[(((i:Nat):Int),y)]) (i::R2):=.inr ⟨i,R2,G,.inl ⟨rfl,JE.set jy (by rw[tB];split<;>rfl),fun x hx=>by
           rcases List.mem_append.1 hx with h|h
           ·exact .inr h
           ·rw[List.mem_singleton.1 h];exact .inl rfl⟩⟩
          have P4:=P3.nil jR;have R4:=R3.nil jR;conv=>whnf
          refine eE NI.read.1 ?_;conv=>whnf
          refine br (fun hc=>?_) (fun hc=>?_)<;>(try rw[hc])<;>(conv=>whnf)
          ·rw[if_pos (hlen.1 (eq_of_beq hc))] at I3;repeat(first|(refine⟨_,bU P4.get rfl,?_⟩;conv=>whnf))
           have vj:o.length≤1000:=Nat.le_trans I2.Kw (by decide);obtain⟨v',g5,b1,b2,b3,b4,b5⟩:=P4.push vj i;refine⟨_,_,b1,?_⟩;conv=>whnf
           refine dV (cj (o:=0+3) (n:=1) b4 (by rw[b2];rfl) (Nat.le_of_ble_eq_true rfl) (by rw[b2];show cond v'.flat _ _=_;rw[b3];rfl)) fun g6 e6=>?_;rw[b2] at e6;obtain⟨P6,f6⟩:=b5 g6 e6;conv=>whnf
           exact step_end _ _ (Ls M3 ⟨⟨v',P6⟩,R4.pk f6 (fun n h=>by omega),I3⟩ (Lw.trans ((Kc.same jR).trans (f6.wk fun n h=>.inr (h.imp id .inl)))))
          ·rw[if_neg (fun h=>by rw[hlen.2 h] at hc;simp at hc)] at I3;exact step_end _ _ (Ls M3 ⟨⟨ov,P4⟩,R4,I3⟩ (Lw.trans (Kc.same jR)))
        |true=>
         obtain⟨i0,j0,rfl,hi0,hm0⟩:=U4 rfl;refine aE 7 _ he (aA (z:=true) ?_);conv=>whnf
         repeat(first|(refine⟨_,bU P2.get rfl,?_⟩;conv=>whnf))
         refine wV WY hL (fun hn=>(hn (cV pH jy)).elim) (fun i j hi hj hs=>?_) (fun i j hi hj hs hne g3 jE=>?_) (fun i j hi hj hs hz g3 c3 R3 f3=>?_)
         ·rcases I.sec i j hj with h|h<;>omega
         ·have P3:=P2.nil jE;conv=>whnf
          repeat(first|(refine⟨_,bU P3.get rfl,?_⟩;conv=>whnf))
          refine⟨_,iH pH,?_⟩;conv=>whnf
          rw[Lu];refine⟨.int .i64 t.a,rfl,?_⟩;conv=>whnf
          refine⟨_,sB t.a y0 (by omega),?_⟩;conv=>whnf
          have hlf:=Ke g3 (jx.trans jE);cases hu:uses st.T a y with
          |false=>
           refine qm (hand.trans hu) (fun hc=>?_)
           (try rw[hc])
           conv=>whnf
           refine qm (by simpa using hne) (fun hc=>?_)
           (try rw[hc])
           conv=>whnf
           exact step_end _ _ hlf
          |true=>
           refine qO (hand.trans hu) (fun hc=>?_)
           (try rw[hc])
           conv=>whnf
           have AH:((i0:Nat):Int)=((a:Nat):Int):=I2.free hu (v8.1 hm0);refine br (fun hc=>?_) (fun hc=>?_)<;>(try rw[hc])<;>(conv=>whnf)
           ·refine qm (by rw[AH];simp) (fun hc=>?_)
            (try rw[hc])
            conv=>whnf
            refine qm (by rw[AH];simp) (fun hc=>?_)
            (try rw[hc])
            conv=>whnf
            refine qm (by simpa using hne) (fun hc=>?_)
            (try rw[hc])
            conv=>whnf
            exact step_end _ _ hlf
           ·refine qm (by rw[AH];simp) (fun hc=>?_)
            (try rw[hc])
            conv=>whnf
            refine qm (by simpa using hne) (fun hc=>?_)
            (try rw[hc])
            conv=>whnf
            exact step_end _ _ hlf
         ·have Ab:i=a:=by omega
          subst Ab;have GG:j=ja:=bC.eq (js:=st.j) hj jy;subst GG;have P3:=P2.rk f3;have Lw:Kc g g3 col c3 PK:=(Kc.same jx).trans (f3.wk fun n h=>.inl h);conv=>whnf
          repeat(first|(refine⟨_,bU P3.get rfl,?_⟩;conv=>whnf))
          refine⟨_,iH pH,?_⟩;conv=>whnf
          rw[Lu];refine⟨.int .i64 t.a,rfl,?_⟩;conv=>whnf
          refine⟨_,sB t.a y0 (by omega),?_⟩;conv=>whnf
          have hu:=PM hz;have AH:((i0:Nat):Int)=((i:Nat):Int):=I2.free hu (v8.1 hm0);refine qO (hand.trans hu) (fun hc=>?_)
          (try rw[hc])
          conv=>whnf
          refine qm (by rw[AH];simp) (fun hc=>?_)
          (try rw[hc])
          conv=>whnf
          repeat(first|(refine⟨_,bU P3.get rfl,?_⟩;conv=>whnf))
          refine j7 R3 (by rw[List.length_append];exact Nat.le_trans (Nat.add_le_add_right hL 1) (by decide)) pH fun g4 v4 l4 NI jR _ hl4 Q0=>?_;have SX:l4=aU (st.L++[(((i:Nat):Int),y)]) i:=Q0 (tB j) (dw.2 (.inl ⟨rfl,(List.getElem?_eq_some_iff.1 jy).1,rfl⟩));have hlen:((l4.length:Nat):Int)=1↔aU st.L i=[]:=by
           rw[SX,pK,pJ (L:=[(((i:Nat):Int),y)]) (by simp),List.length_append];constructor
           ·intro h;simp at h;exact List.length_eq_zero_iff.1 (by omega)
           ·intro h;rw[h];rfl
          have I3:=I2.xU (j':=tB j) jy (by rw[tB];split<;>rfl) (by rw[tB];split<;>rfl) (by rw[tB];split;exact .inr rfl;exact I.sec i j jy) (fun _=>by simp) (I2.sk.lock y) (by rw[List.length_append];have:=I.ln;simp;omega);have M3:Mv st.T st.j st.L R (st.j.set i (some (tB j))) (st.L++[(((i:Nat):Int),y)]) (i::R2):=.inr ⟨i,R2,G,.inl ⟨rfl,JE.set jy (by rw[tB];split<;>rfl),fun x hx=>by
           rcases List.mem_append.1 hx with h|h
           ·exact .inr h
           ·rw[List.mem_singleton.1 h];exact .inl rfl⟩⟩
          have P4:=P3.nil jR;have R4:=R3.nil jR;conv=>whnf
          refine eE NI.read.1 ?_;conv=>whnf
          refine br (fun hc=>?_) (fun hc=>?_)<;>(try rw[hc])<;>(conv=>whnf)
          ·rw[if_pos (hlen.1 (eq_of_beq hc))] at I3;repeat(first|(refine⟨_,bU P4.get rfl,?_⟩;conv=>whnf))
           have vj:o.length≤1000:=Nat.le_trans I2.Kw (by decide);obtain⟨v',g5,b1,b2,b3,b4,b5⟩:=P4.push vj i;refine⟨_,_,b1,?_⟩;conv=>whnf
           refine dV (cj (o:=0+3) (n:=1) b4 (by rw[b2];rfl) (Nat.le_of_ble_eq_true rfl) (by rw[b2];show cond v'.flat _ _=_;rw[b3];rfl)) fun g6 e6=>?_;rw[b2] at e6;obtain⟨P6,f6⟩:=b5 g6 e6;conv=>whnf
           exact step_end _ _ (Ls M3 ⟨⟨v',P6⟩,R4.pk f6 (fun n h=>by omega),I3⟩ (Lw.trans ((Kc.same jR).trans (f6.wk fun n h=>.inr (h.imp id .inl)))))
          ·rw[if_neg (fun h=>by rw[hlen.2 h] at hc;simp at hc)] at I3;exact step_end _ _ (Ls M3 ⟨⟨ov,P4⟩,R4,I3⟩ (Lw.trans (Kc.same jR)))
      |false=>
       refine aE 7 _ he (aA (z:=true) ?_);conv=>whnf
       refine br (fun hc=>?_) (fun hc=>?_)<;>(try rw[hc])<;>(conv=>whnf)
       ·repeat(first|(refine⟨_,bU P1.get rfl,?_⟩;conv=>whnf))
        refine wW MN hL (fun hn=>(hn (cV pH jy)).elim) (fun i j hi hj hne g3 jE=>?_) (fun i j hi hj hz n hn hla g3 c3 R3 f3=>?_)
        ·conv=>whnf
         refine qm (by simpa using hne) (fun hc=>?_)
         (try rw[hc])
         conv=>whnf
         exact step_end _ _ (Ke g3 jE)
        ·have Ab:i=a:=by omega
         subst Ab;have GG:j=ja:=bC.eq (js:=st.j) hj jy;subst GG;have P3:=P1.rk f3;have Lw:Kc g g3 col c3 PK:=f3.wk fun n h=>.inl h;have ee:∀L,(sN L ((i:Nat):Int) j).e=j.e∧(sN L ((i:Nat):Int) j).t=j.t∧((sN L ((i:Nat):Int) j).s=0∨(sN L ((i:Nat):Int) j).s=1):=by
          intro L;have h0:=I.sec i j jy;rw[sN];split
          ·rw[xT];split
           ·exact⟨rfl,rfl,h0⟩
           ·exact⟨rfl,rfl,.inl rfl⟩
          ·exact⟨rfl,rfl,h0⟩
         have I3:=I2.xU (j':=sN (st.L.eraseIdx n) ((i:Nat):Int) j) jy (ee _).1 (ee _).2.1 (ee _).2.2 (fun _=>by simp) (I2.sk.unl hn hla) (by rw[List.length_eraseIdx];have:=I.ln;split<;>omega);have M3:Mv st.T st.j st.L R (st.j.set i (some (sN (st.L.eraseIdx n) ((i:Nat):Int) j))) (st.L.eraseIdx n) (i::R2):=.inr ⟨i,R2,G,.inl ⟨rfl,JE.set jy (ee _).1,fun x hx=>.inr (List.eraseIdx_subset hx)⟩⟩;conv=>whnf
         repeat(first|(refine⟨_,bU P3.get rfl,?_⟩;conv=>whnf))
         refine j7 R3 (by show(st.L.eraseIdx n).length≤1000;rw[List.length_eraseIdx];split<;>omega) pH fun g4 v4 l4 NI jR _ hl4 Q0=>?_;have SX:l4=aU (st.L.eraseIdx n) i:=Q0 _ (dw.2 (.inl ⟨rfl,(List.getElem?_eq_some_iff.1 jy).1,rfl⟩));have P4:=P3.nil jR;have R4:=R3.nil jR;have vj:o.length≤1000:=Nat.le_trans I2.Kw (by decide);conv=>whnf
         refine eE NI.read.1 ?_;conv=>whnf
         refine br (fun hc=>?_) (fun hc=>?_)<;>(try rw[hc])<;>(conv=>whnf)
         ·have hz:aU (st.L.eraseIdx n) i=[]:=by
           rw[←SX];have:=eq_of_beq hc;exact List.length_eq_zero_iff.1 (by omega)
          rw[if_pos hz] at I3;refine I9 P4 vj fun g5 c5 v5 w5 P5 f5=>?_;conv=>whnf
          exact step_end _ _ (Ls M3 ⟨⟨v5,P5⟩,R4.pk f5 (fun n h=>by omega),I3⟩ (Lw.trans ((Kc.same jR).trans (f5.wk fun n h=>.inr (.inl h)))))
         ·have hz:aU (st.L.eraseIdx n) i≠[]:=by
           intro h;rw[SX,h] at hc;simp at hc
          rw[if_neg hz] at I3;exact step_end _ _ (Ls M3 ⟨⟨ov,P4⟩,R4,I3⟩ (Lw.trans (Kc.same jR)))
       ·refine br (fun hc=>?_) (fun hc=>?_)<;>(try rw[hc])<;>(conv=>whnf)
        ·have vj:o.length≤1000:=Nat.le_trans I2.Kw (by decide);refine I9 P1 vj fun g3 c3 v3 w3 P3 f3=>?_;have R3:=MN.pk f3 (fun n h=>by omega);conv=>whnf
         repeat(first|(refine⟨_,bU P3.get rfl,?_⟩;conv=>whnf))
         refine Fv R3 hL (fun hn=>(hn (cV pH jy)).elim) (fun i j hi hj g4 c4 R4 f4=>?_);have Ab:i=a:=by omega
         subst Ab;conv=>whnf
         exact Ls (.inr ⟨i,R2,G,.inr ⟨rfl,rfl,rfl⟩⟩) ⟨⟨v3,P3.rk f4⟩,R4,I2.end'⟩ ((f3.wk fun n h=>.inr (.inl h)).trans (f4.wk fun n h=>.inl h))
        ·repeat(first|(refine⟨_,bU P1.get rfl,?_⟩;conv=>whnf))
         refine Fy MN (fun hn=>(hn (cV pH jy)).elim) (fun i j hi hj g3 c3 R3 f3=>?_);have Ab:i=a:=by omega
         subst Ab;have GG:j=ja:=bC.eq (js:=st.j) hj jy;subst GG;have P3:=P1.rk f3;have Lw:Kc g g3 col c3 PK:=f3.wk fun n h=>.inl h;have er:(mc j).e=j.e∧(mc j).t=j.t∧(mc j).s=j.s:=by
          rw[mc];split<;>exact⟨rfl,rfl,rfl⟩
         have I3:=I2.xU (j':=mc j) jy er.1 er.2.1 (by rw[er.2.2];exact I.sec i j jy) (fun _=>by simp) I2.sk I2.ln;have M3:Mv st.T st.j st.L R (st.j.set i (some (mc j))) st.L (i::R2):=.inr ⟨i,R2,G,.inl ⟨rfl,JE.set jy er.1,fun x hx=>.inr hx⟩⟩;have UO:bC (st.j.set i (some (mc j))) i (mc j):=dw.2 (.inl ⟨rfl,(List.getElem?_eq_some_iff.1 jy).1,rfl⟩);have fin:∀g4,Fr g3 g4 []→Q (.bool true) g4:=fun g4 jR=>Ls M3 ⟨⟨ov,P3.nil jR⟩,R3.nil jR,I3⟩ (Lw.trans (Kc.same jR));conv=>whnf
         refine br (fun hc=>?_) (fun hc=>?_)<;>(try rw[hc])<;>(conv=>whnf)
         ·exact fin _ (Fr.refl _ _)
         ·have hne:q8 j≠0:=by intro h;rw[h] at hc;simp at hc
          have hrow:uY (mc j).l=false:=by
           have h1:mc j=j:=by rw[mc,if_neg (by simpa using hne)]
           rw[h1];cases hr:uY j.l with
           |false=>rfl
           |true=>
            exfalso;apply hne;rw[q8,hr];rcases I.sec i j jy with h|h<;>rw[h]<;>rfl
          repeat(first|(refine⟨_,bU P3.get rfl,?_⟩;conv=>whnf))
          refine KM R3 (fun hn=>(hn (cV pH UO)).elim) (fun i2 j2 hi2 hj2 g4 jR=>?_);conv=>whnf
          refine br (fun hc=>?_) (fun hc=>?_)<;>(try rw[hc])<;>(conv=>whnf)
          ·exact fin _ jR
          ·repeat(first|(refine⟨_,bU (P3.nil jR).get rfl,?_⟩;conv=>whnf))
           refine Of (R3.nil jR) UO pH fun g5 Nv=>?_;rw[hrow];conv=>whnf
           exact fin _ (jR.trans Nv)
    ·show VC fs ms _ _ _ _ _ _;refine aE 6 _ he ?_;refine bt (aA (z:=true) ?_);conv=>whnf
     repeat(first|(refine⟨_,bU P1.get rfl,?_⟩;conv=>whnf))
     refine Oz MN fun g3 v3 M hr hm _ _ jE=>?_;have hM:CC M=[]:=by
      cases M with
      |nil=>rfl
      |cons y M=>
       obtain⟨j,hj,_⟩:=(hm y).1 (by simp);exact(Re _ _ hj).elim
     rw[hM] at hr;conv=>whnf
     refine eE hr.read.1 ?_;conv=>whnf
     exact q2 hno _ _ _ _ _ _ (.inl ⟨rfl,rfl,rfl⟩) ⟨⟨ov,P1.nil jE⟩,MN.nil jE,I1⟩ (ks1.trans (Kc.same jE))
  ·exact hq
end
theorem Vw(t:Tk):gZ (Ah t)=true:=by
 have bp:=ku (i:=t.p) (n:=64) (by decide);have kp:0<yW t∧yW t≤64:=⟨by show 0<1+gS t.p 64;omega,by show 1+gS t.p 64≤64;omega⟩;have bd:=ku (i:=t.d) kp.1;have kd:0<AM t∧AM t≤yW t:=⟨by show 0<1+gS t.d (yW t);omega,by show 1+gS t.d (yW t)≤yW t;omega⟩;have bw:=ku (i:=t.w) kd.1;have kw:0<Kl t∧Kl t≤AM t:=⟨by show 0<1+gS t.w (AM t);omega,by show 1+gS t.w (AM t)≤AM t;omega⟩;have:1≤Kl t∧Kl t≤AM t∧AM t≤yW t∧yW t≤64:=⟨by omega,kw.2,kd.2,kp.2⟩;simpa[gZ,Ah] using this
theorem Ob(l:List Tk):cA (iP l)=true:=by
 rw[cA,Bool.and_eq_true,decide_eq_true_eq,List.all_eq_true];refine⟨fun t ht=>?_,Ag l⟩;obtain⟨u,_,rfl⟩:=List.mem_map.1 ht;exact Vw u
theorem B3(l:List Tk):cT (iP l) (List.replicate (iP l).length 0)=0:=by
 rw[cT,if_pos];refine⟨?_,Ob l,List.length_replicate⟩;rw[List.any_eq_false];intro x hx;rw[List.eq_of_mem_replicate hx];decide
section
variable {h h' h0:Heap} {col aK:Nat→Nat} {p r k:Nat} {now:Int} {R o:List Nat} {st:St}
theorem Nx{B kh:Nat}{J:Int}{how:List Int}{Q:AX→Env→Heap→Prop}(P:Pl h col p r k st now R o)(hQ:∀e,bZ e [(1,.fz kh (ints how)),(6,.ptr r 0),(8,.ptr p 0),(9,.int .i64 J)]→Q (.exit 2) e h):
  ∀(m n:Nat) (env:Env),o.length-n=m→1≤n→bZ env [(1,.fz kh (ints how)),(6,.ptr r 0),(8,.ptr p 0),(9,.int .i64 J),(10,.int .i64 ((n:Nat):Int))]→
   VC fs ms B false (.loop gj) env h Q:=by
 obtain⟨⟨ov,PA⟩,RM,I⟩:=P;have vj:=I.Kw;intro m;induction m using Nat.strongRecOn with
 |ind m ih=>
 intro n env hm hn fO;refine aE 4 _ fO ?_;refine dm (z:=true) ?_;conv=>whnf
 repeat(first|(refine⟨_,bU PA.get rfl,?_⟩;conv=>whnf))
 refine eE PA.len ?_;conv=>whnf
 refine br (fun hc=>?_) (fun hc=>?_)<;>(try rw[hc])<;>(conv=>whnf)
 ·have hlt:n<o.length:=by have:=of_decide_eq_true hc;omega
  have Q9:n-1<o.length:=by omega
  have en:IntKind.i64.wrap (((n:Nat):Int)-1)=((n-1:Nat):Int):=by rw[IntWalk.i64_in _ (by omega)];omega
  obtain⟨b0,a1,a2⟩:=PA.at Q9;obtain⟨b1,a3,a4⟩:=PA.at hlt;rw[←en] at a1;obtain⟨j0,hj0⟩:=I.rj _ (I.sk.DE _ (List.getElem_mem Q9));obtain⟨j1,UN⟩:=I.rj _ (I.sk.DE _ (List.getElem_mem hlt));have NH:ah (o[n],j1.e) (o[n-1],j0.e)=true:=(List.pairwise_iff_getElem.1 I.sk.ord (n-1) n Q9 hlt (by omega)) j1 j0 UN hj0;have hle:¬j1.e>j0.e:=by
   rw[nQ] at NH;simp only at NH;omega
  repeat(first|(refine⟨_,bU PA.get rfl,?_⟩;conv=>whnf))
  refine⟨_,a1,?_⟩;conv=>whnf
  refine⟨_,a2,?_⟩;conv=>whnf
  refine oA RM (fun h=>(h (cV (I.lt hj0) hj0)).elim) (fun i2 j2 hi2 hj2=>?_);have e2:i2=o[n-1]:=by omega
  subst e2;have e2:j2=j0:=bC.eq (js:=st.j) hj2 hj0;subst e2;conv=>whnf
  repeat(first|(refine⟨_,bU PA.get rfl,?_⟩;conv=>whnf))
  refine⟨_,a3,?_⟩;conv=>whnf
  refine⟨_,a4,?_⟩;conv=>whnf
  refine oA RM (fun h=>(h (cV (I.lt UN) UN)).elim) (fun i3 j3 hi3 hj3=>?_);have e3:i3=o[n]:=by omega
  subst e3;have e3:j3=j1:=bC.eq (js:=st.j) hj3 UN;subst e3;conv=>whnf
  refine qm (decide_eq_false hle) (fun hc=>?_)
  (try rw[hc])
  conv=>whnf
  exact ih (o.length-(n+1)) (by omega) (n+1) _ rfl (by omega) ⟨rfl,rfl,rfl,rfl,aL (by omega),trivial⟩
 ·exact hQ _ ⟨rfl,rfl,rfl,rfl,trivial⟩
theorem K2{x:Int}(hx0:0≤x)(hx:x<9600)(P:Pl h col p r k st now R o)(hk:k=3→st.T=[])(hn0:0≤now)(hn:now≤500):
  VD fs ms 11 [.ptr p 0,.int .i64 x] h (fun v g=>v=.bool true∧∃iL tv rX R1 o1,Pl g iL p r k tv rX R1 o1∧tv.T=st.T∧0≤rX∧rX≤now+1):=
 D0 hx0 hx P hk hn0 hn (fun _ _ h' aK P' _=>⟨rfl,_,_,_,_,_,P',rfl,hn0,by omega⟩) (fun _ _ i tk g _ _ _ _ h' aK P' _=>⟨rfl,_,_,_,_,_,P',rfl,hn0,by omega⟩)
  (fun _ h' aK tC L' R' o' _ P' _=>⟨rfl,_,_,_,_,_,P',rfl,by omega,Int.le_refl _⟩)
theorem QE{B kh:Nat}{how:List Int}{T:List Tk}{Q:AX→Env→Heap→Prop}(hk:k=3→T=[])(ZS:how.length<2^62)(hQ:∀e g,Q (.exit 0) e g):
  ∀(m i:Nat) (J:Int) (h:Heap) (col:Nat→Nat) (st:St) (now:Int) (R o:List Nat) (env:Env),150-i=m→i≤150→J=((i:Nat):Int)→Pl h col p r k st now R o→st.T=T→0≤now→now≤i→
   bZ env [(1,.fz kh (ints how)),(6,.ptr r 0),(8,.ptr p 0),(9,.int .i64 J)]→VC fs ms B false (.loop ga) env h Q:=by
 intro m;induction m using Nat.strongRecOn with
 |ind m ih=>
 intro i J h col st now R o env hm hi hJ P hT hn0 hn fO;refine aE 4 _ fO ?_;have sv:decide (J<(((ints how).length:Nat):Int))=decide (i<how.length):=by rw[cm,hJ];simp
 refine mA (bt (aA (z:=true) ?_));cases c:decide (i<how.length) with
 |false=>
  rw[c] at sv;conv=>whnf
  refine qm (sv) (fun hc=>?_)
  (try rw[hc])
  conv=>whnf
  exact hQ _ _
 |true=>
  rw[c] at sv;have hlt:i<how.length:=of_decide_eq_true c;conv=>whnf
  refine qO (sv) (fun hc=>?_)
  (try rw[hc])
  conv=>whnf
  refine br (fun hc=>?_) (fun hc=>?_)<;>(try rw[hc])<;>(conv=>whnf)
  ·have hi4:i<150:=by have:=of_decide_eq_true hc;omega
   have hw:some (AV.int .i64 (IntKind.i64.wrap (J+1)))=some (AV.int .i64 (J+1)):=by rw[IntWalk.i64_in _ (by omega)]
   have hb:=ku (i:=how[i]) (n:=9600) (by decide);refine bt (bR (bt (aA (z:=true) ?_)));conv=>whnf
   refine⟨_,by rw[hJ];exact n9 hlt,?_⟩;conv=>whnf
   refine⟨.int .i64 how[i],rfl,?_⟩;conv=>whnf
   refine aO (qn how[i] 9600 (by decide) (by decide)) ?_;conv=>whnf
   refine VD.mono (K2 hb.1 hb.2 P (by rw[hT];exact hk) hn0 (by omega)) ?_;rintro v g ⟨rfl,iL,tv,rX,R1,o1,P1,Uk,QL,Zt⟩;conv=>whnf
   refine aM true ?_;conv=>whnf
   refine bR ?_;refine Nx (kh:=kh) (how:=how) (J:=J) P1 (fun e he=>?_) (o1.length-1) 1 _ rfl (Nat.le_refl _) ⟨rfl,rfl,rfl,rfl,rfl,trivial⟩;show VC fs ms _ _ _ _ _ _;refine aE 4 _ he (aA (z:=true) ?_);conv=>whnf
   exact ih (150-(i+1)) (by omega) (i+1) (J+1) g iL tv rX R1 o1 _ rfl (by omega) (by omega) P1 (Uk.trans hT) QL (by omega) ⟨rfl,rfl,rfl,hw,trivial⟩
  ·exact hQ _ _
theorem EW{T:List Tk}(hT:T.length≤4):Inv T (List.replicate T.length none) [] 0 [] []:=by
 have no:∀i j,¬bC (List.replicate T.length none) i j:=fun i j h=>by
  rw[bC,List.getElem?_replicate] at h;split at h<;>cases h
 exact⟨hT,List.length_replicate,fun i j h=>(no i j h).elim,fun i j h=>(no i j h).elim,fun i j h=>(no i j h).elim,fun a h=>by simp at h,fun i j h=>(no i j h).elim,fun f j a ja h=>(no f j h).elim,⟨rfl,rfl⟩,Int.le_refl _⟩
theorem KC{T:List Tk}(RM:RA h col r st):RA (h.new (.cells [.ptr r 0,.fz k (ey T),.int .i64 0,.aH] true 0)) (dg col h.next 200) r st∧tG (h.new (.cells [.ptr r 0,.fz k (ey T),.int .i64 0,.aH] true 0)) (dg col h.next 200) h.next r k T 0 [] .aH:=
 ⟨RM.keep (K:=fun _=>False) (Kc.nil ((Fr.refl h []).new) 200) (fun _ _ _ h=>h) (fun _ _ h=>h),⟨Nat.lt_succ_self _,dL (Nat.le_refl _),ai,.inl ⟨rfl,rfl⟩⟩⟩
theorem DQ(kl kh:Nat)(l:List Tk)(how:List Int)(hl:l.length<2^62)(hh:how.length<2^62):PC fs ms 3 [.fz kl (ey l),.fz kh (ints how)] (.bool true):=by
 refine cG (by simp[cw,AV.cl,bW,bS]) rfl ?_;refine dz (af:=C3) rfl (Nat.le_of_ble_eq_true rfl) ?_;generalize hQ:(fun(v:AV) (_:Heap)=>v=.bool true)=Q;have hT:=Ag l;have nN:pG (ey (iP l)).length=3→iP l=[]:=Pk;have NC:=B3 l;have hmk:=Ki kl l hl;generalize pG (ey (iP l)).length=k at*;generalize iP l=T at*;conv=>whnf
 refine aM true ?_;conv=>whnf
 refine bt (aA (z:=true) ?_);conv=>whnf
 refine aO zm ?_;conv=>whnf
 refine aM true ?_;conv=>whnf
 refine aO hmk ?_;conv=>whnf
 refine aM true ?_;conv=>whnf
 refine As (col:=fun _=>0) k T nN (by omega) (fun hn=>(hn NC).elim) (fun hok h1 iL r RM f1=>?_);conv=>whnf
 refine bt (aA (z:=true) ?_);conv=>whnf
 rw[bB];refine⟨_,_,Fe (by omega),?_⟩;conv=>whnf
 have jx:Fr h1 (h1.new (.cells (ints (List.replicate T.length 0)) true 0)) []:=(Fr.refl h1 []).new;have g2:(h1.new (.cells (ints (List.replicate T.length 0)) true 0)).get h1.next=some (.cells (aa (ints (List.replicate T.length 0))++[]) true 0):=by rw[lF,List.append_nil];exact ai
 refine jM (vc k 0 T (List.replicate T.length 0) (by omega) (by rw[List.length_replicate];omega)) rfl (.cons (.clean (by simp[AV.cl,bW])) (.cons (qw trivial g2 rfl (uq _) (by rw[cm,List.length_replicate]) (Nat.le_refl _) (bS _)) .nil)) ?_;rw[NC];conv=>whnf
 have WY:=RM.nil jx;generalize h1.new (.cells (ints (List.replicate T.length 0)) true 0)=h2 at*;refine aM true ?_;conv=>whnf
 obtain⟨Y5,P3⟩:=KC (k:=k) (T:=T) WY;refine bt (aM true ?_);conv=>whnf
 refine bR ?_;refine QE (kh:=kh) (how:=how) (T:=T) (k:=k) nN hh (fun e g=>?_) 150 0 0 _ _ ⟨T,[],List.replicate T.length none,List.replicate T.length 0⟩ 0 [] [] _ rfl (by omega) rfl ⟨⟨.aH,P3⟩,Y5,EW hT⟩ rfl (Int.le_refl _) (Int.le_refl _) ⟨rfl,rfl,rfl,rfl,trivial⟩;refine aE 0 [] trivial (aA (z:=true) ?_);conv=>whnf
 subst hQ;rfl
end
end Ir
end Go.Proofs.YtnlcabhfkpafmaaGreat
