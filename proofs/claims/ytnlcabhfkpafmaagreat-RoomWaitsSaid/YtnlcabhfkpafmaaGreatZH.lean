/-
  Room, in plain Lean: while a job waits, one outermost section alone keeps it waiting. RoomWaits: who had something locked; its loops. RoomWaits. RoomWaits: the statement.
-/
import Derived.Test.YtnlcabhfkpafmaaGreatZG
set_option maxRecDepth 100000
set_option linter.unusedSimpArgs false
set_option linter.unusedVariables false
namespace Go.Proofs.YtnlcabhfkpafmaaGreat
open Go Ads
namespace Ir
def SO(T:List Tk)(js:Js)(L:List En)(R:List Nat)(t a:Nat):Prop:=∀f jf jt,bC js f jf→bC js t jt→f∉R→(f=t∨ah (f,jf.e) (t,jt.e)=true)→∀x∈L,x.1=((a:Nat):Int)→ceil T x.2<lvl T f
def Wt(T:List Tk)(js:Js)(L:List En)(R:List Nat)(had:Nat→Nat→Bool)(Et:Nat→Nat):Prop:=
 ∀t jt,bC js t jt→t∉R→∀R1 a R2 ja,R=R1++a::R2→bC js a ja→ah (t,jt.e) (a,ja.e)=true→
  SO T js L R t a∨((∀b∈R1,∀jb,bC js b jb→ah (t,jt.e) (b,jb.e)=false)∧had t a=true∧(Et t=0∨Et t=a+1))
section
variable {T:List Tk} {js tC:Js} {L L':List En} {now:Int} {R R':List Nat} {o o':List Nat} {had Je:Nat→Nat→Bool} {Et Zb:Nat→Nat} {i a:Nat} {j:Jb}
theorem Sk.ceil:∀{R:List Nat} {L:List En} {o:List Nat},Sk T js R L o→∀R1 b R2,R=R1++b::R2→∀a∈R2,∀x∈L,x.1=((a:Nat):Int)→ceil T x.2<lvl T b
 |[],L,o,h,R1,b,R2,e=>by cases R1<;>cases e
 |c::R,L,o,⟨L0,L1,o0,h1,h2,h3,h4,h5,h6,h7⟩,R1,b,R2,e=>by
  intro a ha x hx Tm;have hca:c≠a:=by
   intro e2;subst e2;cases R1 with
   |nil=>cases e;exact h5 ha
   |cons d R1=>cases e;exact h5 (by simp[ha])
  have hx0:x∈L0:=by
   rw[h1] at hx;rcases List.mem_append.1 hx with h|h
   ·exact h
   ·have:=h3 x h;omega
  cases R1 with
  |nil=>cases e;exact h4 x hx0
  |cons d R1=>cases e;exact h7.ceil R1 b R2 rfl a ha x hx0 Tm
theorem z9{x:En}(h:x∈L)(e:x.1=((a:Nat):Int)):aU L ((a:Nat):Int)≠[]:=by
 intro h0;have:x.2∈aU L ((a:Nat):Int):=by
  rw[aU];exact List.mem_map.2 ⟨x,List.mem_filter.2 ⟨h,by simpa using e⟩,rfl⟩
 rw[h0] at this;simp at this
theorem Bm{t:Nat}(h:aU L ((a:Nat):Int)=[]):SO T js L R t a:=fun f jf jt _ _ _ _ x hx e=>(z9 hx e h).elim
theorem Wt.check(W:Wt T js L (a::R) had Et)(hb:ck T js L (a::R) a){t:Nat}{jt ja:Jb}(ht:bC js t jt)(ha:bC js a ja)(hn:t∉a::R)(h:ah (t,jt.e) (a,ja.e)=true):
  aU L ((a:Nat):Int)≠[]∧had t a=true∧(Et t=0∨Et t=a+1):=by
 obtain⟨f,jf,f1,f2,f3,f4⟩:=hb t jt ja ht ha hn h;refine⟨fun h0=>f4 fun x hx e=>(z9 hx e h0).elim,?_⟩;rcases W t jt ht hn [] a R ja rfl ha h with hf|⟨_,h2⟩
 ·exact(f4 (hf f jf jt f1 ht f2 f3)).elim
 ·exact h2
theorem Wt.set(W:Wt T js L (a::R) had Et){t:Nat}{jt ja:Jb}(ht:bC js t jt)(ha:bC js a ja)(hb:ck T js L (a::R) a)(hn:t∉a::R)(h:ah (t,jt.e) (a,ja.e)=true):Wt T js L (a::R) had (fun k=>if k=t then a+1 else Et k):=by
 intro t' jt' ht' hn' R1 b R2 jb e BE vU;by_cases et:t'=t
 ·subst et;cases R1 with
  |nil=>
   cases e
   obtain⟨_,h2,_⟩:=W.check hb ht ha hn h;exact .inr ⟨by simp,h2,.inr (if_pos rfl)⟩
  |cons c R1=>
   cases e
   rcases W t' jt' ht' hn' (a::R1) b R2 jb rfl BE vU with h1|⟨h1,_⟩
   ·exact .inl h1
   ·have:=h1 a (by simp) ja ha;rw[ht'.eq ht,h] at this;cases this
 ·rcases W t' jt' ht' hn' R1 b R2 jb e BE vU with h1|⟨h1,h2,h3⟩
  ·exact .inl h1
  ·exact .inr ⟨h1,h2,by simpa[et] using h3⟩
theorem Wt.hd(W:Wt T js L R had Et)(h:∀t k,had t k=true→aU L ((k:Nat):Int)≠[]→k∈R→(∃j,bC js t j)→Je t k=true):Wt T js L R Je Et:=by
 intro t jt ht hn R1 a R2 ja e jy vU;by_cases h0:aU L ((a:Nat):Int)=[]
 ·exact .inl (Bm h0)
 ·rcases W t jt ht hn R1 a R2 ja e jy vU with h1|⟨h1,h2,h3⟩
  ·exact .inl h1
  ·exact .inr ⟨h1,h t a h2 h0 (by rw[e];simp) ⟨jt,ht⟩,h3⟩
theorem Wt.mv(W:Wt T js L R had Et)(AI:R.Nodup)(M:Mv T js L R tC L' R'):Wt T tC L' R' had Et:=by
 rcases M with⟨rfl,rfl,rfl⟩|⟨a,R2,⟨hG,hB⟩,(⟨rfl,E,hL⟩|⟨rfl,rfl,rfl⟩)⟩
 ·exact W
 ·
  intro t jt ht hn R1 b R3 jb e BE vU;obtain⟨Tq,Tj,et⟩:=E.1 t jt ht;obtain⟨jb0,NF,eb⟩:=E.1 b jb BE;rw[←et,←eb] at vU;have lift:b≠a→(∀f,f∉a::R2→f∉R)→SO T js L R t b→SO T tC L' (a::R2) t b:=by
   intro hba hR hf f jf J7 h1 h2 h3 h4 x hx hxb;obtain⟨jf0,hf0,ef⟩:=E.1 f jf h1;have hxL:x∈L:=(hL x hx).resolve_left fun h=>hba (by omega);refine hf f jf0 Tq hf0 Tj (hR f h3) ?_ x hxL hxb;rw[ht.eq h2] at et;rw[ef,et];exact h4
  have hno:∀(Y1:List Nat),(∀c∈Y1,∀jc,bC js c jc→ah (t,Tq.e) (c,jc.e)=false)→∀c∈Y1,∀jc,bC tC c jc→ah (t,jt.e) (c,jc.e)=false:=by
   intro Y1 h c hc jc Py;obtain⟨jc0,hc0,ec⟩:=E.1 c jc Py;rw[←et,←ec];exact h c hc jc0 hc0
  rcases hG with hR|⟨haR,⟨j,F⟩,hR⟩
  ·subst hR;cases R1 with
   |nil=>
    cases e
    obtain⟨_,h2⟩:=W.check hB Tj NF hn vU;exact .inr ⟨by simp,h2⟩
   |cons c R1=>
    cases e
    have hba:b≠a:=by
     intro h;subst h;exact(List.nodup_cons.1 AI).1 (by simp)
    rcases W t Tq Tj hn (a::R1) b R3 jb0 rfl NF vU with h1|⟨h1,h2⟩
    ·exact .inl (lift hba (fun f h=>h) h1)
    ·exact .inr ⟨hno _ h1,h2⟩
  ·subst hR;cases R1 with
   |nil=>
    cases e
    rw[NF.eq F.1,F.2 t Tq Tj] at vU;cases vU
   |cons c R1=>
    cases e
    have hba:b≠a:=fun h=>haR (by rw[←h];simp);have hnR:t∉R1++b::R3:=fun h=>hn (by simp at h⊢;exact .inr h);rcases W t Tq Tj hnR R1 b R3 jb0 rfl NF vU with h1|⟨h1,h2⟩
    ·exact .inl (lift hba (fun f h h'=>h (List.mem_cons_of_mem _ h')) h1)
    ·refine .inr ⟨hno _ fun c hc jc Py=>?_,h2⟩;rcases List.mem_cons.1 hc with rfl|hc
     ·rw[Py.eq F.1,F.2 t Tq Tj]
     ·exact h1 c hc jc Py
 ·
  intro t jt ht hn R1 b R3 jb e BE vU;have old:∀{n jn},bC (js.set a none) n jn→n≠a∧bC js n jn:=fun h=>by
   rcases dw.1 h with⟨_,_,b⟩|h
   ·cases b
   ·exact h
  have lift:(∀f,f≠a→f∉R'→f∉R)→SO T js L R t b→SO T (js.set a none) (iB L ((a:Nat):Int)) R' t b:=by
   intro hR hf f jf J7 h1 h2 h3 h4 x hx hxb;exact hf f jf J7 (old h1).2 (old h2).2 (hR f (old h1).1 h3) h4 x (List.mem_filter.1 hx).1 hxb
  rcases hG with hR|⟨haR,_,hR⟩
  ·subst hR;rcases W t jt (old ht).2 (fun h=>(List.mem_cons.1 h).elim (old ht).1 hn) (a::R1) b R3 jb (by rw[e];rfl) (old BE).2 vU with h1|⟨h1,h2⟩
   ·exact .inl (lift (fun f h h' h''=>(List.mem_cons.1 h'').elim h h') h1)
   ·exact .inr ⟨fun c hc jc Py=>h1 c (List.mem_cons_of_mem _ hc) jc (old Py).2,h2⟩
  ·subst hR;rcases W t jt (old ht).2 hn R1 b R3 jb e (old BE).2 vU with h1|⟨h1,h2⟩
   ·exact .inl (lift (fun f _ h=>h) h1)
   ·exact .inr ⟨fun c hc jc Py=>h1 c hc jc (old Py).2,h2⟩
theorem H9{x y z:Id}(h1:ah x y=true)(h2:ah y z=true):ah x z=true:=by
 rw[nQ] at*;omega
theorem Wt.rel{t0:Tk}{j':Jb}(W:Wt T js L R had Et)(I:Inv T js L now R o)(I2:Inv T (js.set i (some j')) L now R o)(h0:js[i]?=some none)(h2:j'.t=t0)(h4:j'.e=now+t0.d)
  (hh:∀k∈R,aU L ((k:Nat):Int)≠[]→Je i k=true)(ho:∀t k,t≠i→Je t k=had t k)(hb:Zb i=0)(hbo:∀t,t≠i→Zb t=Et t):Wt T (js.set i (some j')) L R Je Zb:=by
 have Jp:i<js.length:=(List.getElem?_eq_some_iff.1 h0).1;have hnew:bC (js.set i (some j')) i j':=dw.2 (.inl ⟨rfl,Jp,rfl⟩);have old:∀{n jn},bC (js.set i (some j')) n jn→(n=i∧jn=j')∨(n≠i∧bC js n jn):=fun h=>by
  rcases dw.1 h with⟨a,_,b⟩|h
  ·exact .inl ⟨a,(Option.some.inj b).symm⟩
  ·exact .inr h
 have Th:i∉R:=fun h=>by
  obtain⟨j,hj⟩:=I.rj i h;rw[bC,h0] at hj;cases hj
 intro t jt ht hn R1 a R2 ja e jy vU;by_cases Px:aU L ((a:Nat):Int)=[]
 ·exact .inl (Bm Px)
 rcases old ht with⟨rfl,rfl⟩|⟨NK,ht'⟩
 ·by_cases hex:∀b∈R1,∀jb,bC (js.set t (some jt)) b jb→ah (t,jt.e) (b,jb.e)=false
  ·exact .inr ⟨hex,hh a (by rw[e];simp) Px,.inl hb⟩
  ·left;simp only[Classical.not_forall] at hex;obtain⟨b,qP,jb,BE,iG⟩:=hex;have iG:ah (t,jt.e) (b,jb.e)=true:=by
    cases h:ah (t,jt.e) (b,jb.e) with
    |true=>rfl
    |false=>exact absurd h iG
   obtain⟨S1,S2,hS⟩:=List.append_of_mem qP;have hR:R=S1++b::(S2++a::R2):=by rw[e,hS,List.append_assoc];rfl
   intro f jf J7 hf Q5 ZO Rk x hx Tm;rw[Q5.eq hnew] at Rk;have GB:ah (f,jf.e) (b,jb.e)=true:=by
    rcases Rk with rfl|h
    ·rw[hf.eq hnew];exact iG
    ·exact H9 h iG
   have hd:=I2.nf f jf b jb hf ZO (by rw[hR];simp) BE GB;have:=wC (I2.tk f jf hf) (I2.tk b jb BE) hd;have:=I.sk.ceil S1 b _ hR a (by simp) x hx Tm;omega
 ·have ZW:bC js a ja:=by
   rcases old jy with⟨rfl,_⟩|⟨_,h⟩
   ·exact absurd (by rw[e];simp) Th
   ·exact h
  rcases W t jt ht' hn R1 a R2 ja e ZW vU with h1|⟨h1,q6,h3⟩
  ·left;intro f jf J7 hf Q5 ZO Rk x hx Tm;have ejt:J7=jt:=Q5.eq ht;subst ejt;rcases old hf with⟨rfl,rfl⟩|⟨UF,hf'⟩
   ·rcases Rk with h|h
    ·exact absurd h.symm NK
    ·have q:=I.e t J7 ht';rw[nQ] at h;simp only[h4] at h;have hd:t0.d≤J7.t.d:=by omega
     have Lu:=I2.tk f jf hf;rw[h2] at Lu;have:=wC Lu (I.tk t J7 ht') hd;have:=h1 t J7 J7 ht' ht' hn (.inl rfl) x hx Tm;omega
   ·exact h1 f jf J7 hf' ht' ZO Rk x hx Tm
  ·refine .inr ⟨fun b hb' jb BE=>?_,by rw[ho t a NK];exact q6,by rw[hbo t NK];exact h3⟩;rcases old BE with⟨rfl,_⟩|⟨_,h⟩
   ·exact absurd (by rw[e];simp[hb']) Th
   ·exact h1 b hb' jb h
end
def hF(f:Nat→Bool)(t k:Nat):Bool:=decide (k<4)&&f (t*4+k)
def qc{α:Type}(f:Nat→α)(c:Nat)(v:α):Nat→α:=fun x=>if x=c then v else f x
def ue{α:Type}(en:α→AV)(N:Nat)(f:Nat→α):List AV:=(List.range N).map fun c=>en (f c)
theorem pQ{α:Type}{en:α→AV}{N c:Nat}{f:Nat→α}(h:c<N):(ue en N f)[c]?=some (en (f c)):=by
 rw[ue,List.getElem?_map,List.getElem?_range h];rfl
theorem nC{α:Type}{en:α→AV}{N:Nat}{f:Nat→α}:(ue en N f).length=N:=by simp[ue]
theorem B4{α:Type}{en:α→AV}{N c:Nat}{f:Nat→α}(h:c<N)(v:α):Heap.splice (ue en N f) c [en v]=ue en N (qc f c v):=by
 rw[lM _ _ _ (by rw[nC];exact h)];apply List.ext_getElem?;intro i;rw[List.getElem?_set];by_cases e:c=i
 ·subst e;rw[if_pos rfl,if_pos (by rw[nC];exact h),pQ h,qc,if_pos rfl]
 ·rw[if_neg e];by_cases hi:i<N
  ·rw[pQ hi,pQ hi,qc,if_neg (fun h=>e h.symm)]
  ·rw[List.getElem?_eq_none (by rw[nC];omega),List.getElem?_eq_none (by rw[nC];omega)]
def Ln(n:Nat):AV:=.int .i64 ((n:Nat):Int)
structure WA(h:Heap)(col:Nat→Nat)(b9 iS:Nat)(f:Nat→Bool)(g:Nat→Nat):Prop where
 l9:b9<h.next
 c9:col b9=202
 g9:h.get b9=some (.cells (ue AV.bool 16 f) true 0)
 Vo:iS<h.next
 MX:col iS=203
 Xc:h.get iS=some (.cells (ue Ln 4 g) true 0)
section
variable {h h' h0:Heap} {col aK:Nat→Nat} {p r k b9 iS:Nat} {now:Int} {R o:List Nat} {st:St} {f f0:Nat→Bool} {g g0:Nat→Nat}
theorem WA.keep{K:Nat→Prop}(W:WA h col b9 iS f g)(fr:Kc h h' col aK K)(h1:¬K 202)(h2:¬K 203):WA h' aK b9 iS f g:=
 ⟨Nat.lt_of_lt_of_le W.l9 fr.next,(fr.col b9 W.l9).trans W.c9,(fr.keep b9 W.l9 (by rw[W.c9];exact h1)).trans W.g9,Nat.lt_of_lt_of_le W.Vo fr.next,(fr.col iS W.Vo).trans W.MX,(fr.keep iS W.Vo (by rw[W.MX];exact h2)).trans W.Xc⟩
theorem WA.nil(W:WA h col b9 iS f g)(fr:Fr h h' []):WA h' col b9 iS f g:=W.keep (K:=fun _=>False) (Kc.same fr) id id
theorem WA.pk(W:WA h col b9 iS f g)(fr:Kc h h' col aK PK):WA h' aK b9 iS f g:=
 W.keep fr (fun h=>by rcases h with⟨_,h⟩|h|h|h<;>omega) (fun h=>by rcases h with⟨_,h⟩|h|h|h<;>omega)
theorem Pl.kw{K:Nat→Prop}(P:Pl h col p r k st now R o)(fr:Kc h h' col aK K)(hK:∀n,K n→202≤n):Pl h' aK p r k st now R o:=
 ⟨P.W4.imp fun _ a=>a.keep fr (fun h=>by have:=hK _ h;omega) (fun h=>by have:=hK _ h;omega),P.room.pk fr (fun n h=>by have:=hK n h;omega),P.inv⟩
theorem WA.ldH(W:WA h col b9 iS f g){t n:Nat}(ht:t<4)(hn:n<4):rV .bY [.ptr b9 (0+t*4+n*1)] h=some (.bool (f (t*4+n))):=
 bU W.g9 (by rw[show 0+t*4+n*1=t*4+n by omega];exact pQ (by omega))
theorem WA.ldB(W:WA h col b9 iS f g){t:Nat}(ht:t<4):rV .bY [.ptr iS (0+t*1)] h=some (Ln (g t)):=
 bU W.Xc (by rw[show 0+t*1=t by omega];exact pQ ht)
theorem WA.stH(W:WA h col b9 iS f g){t n:Nat}(ht:t<4)(hn:n<4)(v:Bool):∃h',eV (.store 1) [.ptr b9 (0+t*4+n*1),.bool v] h=some (.undef,h')∧WA h' col b9 iS (qc f (t*4+n) v) g∧Kc h h' col col (· =202):=by
 have hst:=cj (o:=0+t*4+n*1) (n:=1) (v:=.bool v) W.g9 rfl (by rw[nC];omega) rfl;rw[show 0+t*4+n*1=t*4+n by omega] at hst⊢;have hne:iS≠b9:=by intro e;have:=W.MX;rw[e,W.c9] at this;omega
 refine⟨_,hst,⟨W.l9,W.c9,?_,W.Vo,W.MX,(aQ hne).trans W.Xc⟩,⟨Nat.le_refl _,fun c _ hn=>aQ (fun e=>hn (by rw[e];exact W.c9)),fun _ _=>rfl⟩⟩;rw[aC,show(AV.bool v).cells=[AV.bool v] from rfl,B4 (by omega)]
theorem WA.stB(W:WA h col b9 iS f g){t:Nat}(ht:t<4)(v:Nat):∃h',eV (.store 1) [.ptr iS (0+t*1),Ln v] h=some (.undef,h')∧WA h' col b9 iS f (qc g t v)∧Kc h h' col col (· =203):=by
 have hst:=cj (o:=0+t*1) (n:=1) (v:=Ln v) W.Xc rfl (by rw[nC];omega) rfl;rw[show 0+t*1=t by omega] at hst⊢;have hne:b9≠iS:=by intro e;have:=W.c9;rw[e,W.MX] at this;omega
 refine⟨_,hst,⟨W.l9,W.c9,(aQ hne).trans W.g9,W.Vo,W.MX,?_⟩,⟨Nat.le_refl _,fun c _ hn=>aQ (fun e=>hn (by rw[e];exact W.MX)),fun _ _=>rfl⟩⟩;rw[aC,show(Ln v).cells=[Ln v] from rfl,B4 (by omega)]
def wE(hv:AV)(k:Nat)(T:List Tk)(r p b9 iS:Nat)(J:Int):List (Nat×AV):=[(1,hv),(5,.fz k (ey T)),(6,.ptr r 0),(8,.ptr p 0),(9,.ptr b9 0),(10,.ptr iS 0),(11,.int .i64 J)]
theorem w1{B i:Nat}{hv:AV}{J:Int}{Q:AX→Env→Heap→Prop}(hi:i<st.T.length)(hL:st.L.length≤1000)
  (hQ:∀h f g e,Pl h col p r k st now R o→WA h col b9 iS f g→(∀n,n<st.T.length→aU st.L ((n:Nat):Int)≠[]→(∃j,bC st.j n j)→f (i*4+n)=true)→(∀c,(c<i*4∨i*4+4≤c)→f c=f0 c)→g i=0→(∀t,t≠i→g t=g0 t)→
   bZ e (wE hv k st.T r p b9 iS J)→Q (.exit 2) e h):
  ∀(m n:Nat) (h:Heap) (f:Nat→Bool) (g:Nat→Nat) (env:Env),st.T.length-n=m→n≤st.T.length→Pl h col p r k st now R o→WA h col b9 iS f g→(∀x,x<n→aU st.L ((x:Nat):Int)≠[]→(∃j,bC st.j x j)→f (i*4+x)=true)→
   (∀c,(c<i*4∨i*4+4≤c)→f c=f0 c)→(0<n→g i=0)→(∀t,t≠i→g t=g0 t)→
   bZ env (wE hv k st.T r p b9 iS J++[(13,.int .i64 ((i:Nat):Int)),(15,.bool false),(17,.bool true),(18,.int .i64 ((n:Nat):Int))])→VC fs ms B false (.loop dJ) env h Q:=by
 intro m;induction m using Nat.strongRecOn with
 |ind m ih=>
 intro n h f g env hm hn P W h1 h2 h3 h4 fO;have Dl:=P.inv.n4;refine aE 5 _ fO ?_;refine dm (z:=true) ?_;unfold wE;conv=>whnf
 have sv:decide (((n:Nat):Int)<(((ey st.T).length:Nat):Int))=decide (n<st.T.length):=by rw[bB];simp
 cases c:decide (n<st.T.length) with
 |false=>
  refine qm (sv.trans c) (fun hc=>?_)
  (try rw[hc])
  conv=>whnf
  have he:n=st.T.length:=by have:=of_decide_eq_false c;omega
  subst he;exact hQ _ _ _ _ P W h1 h2 (h3 (by omega)) h4 ⟨rfl,rfl,rfl,rfl,rfl,rfl,rfl,trivial⟩
 |true=>
  refine qO (sv.trans c) (fun hc=>?_)
  (try rw[hc])
  conv=>whnf
  have hlt:n<st.T.length:=of_decide_eq_true c;refine j7 P.room hL hlt fun vg v l hr fr hx _ he=>?_;conv=>whnf
  refine eE hr.read.1 ?_;conv=>whnf
  refine⟨_,dO (by omega),?_⟩;conv=>whnf
  refine⟨_,dO (by omega),?_⟩;conv=>whnf
  obtain⟨q6,s1,W2,f2⟩:=(W.nil fr).stH (t:=i) (n:=n) (by omega) (by omega) (decide (((l.length:Nat):Int)>0));refine⟨_,_,s1,?_⟩;conv=>whnf
  refine⟨_,dO (by omega),?_⟩;conv=>whnf
  obtain⟨S9,s2,W3,f3⟩:=W2.stB (t:=i) (by omega) 0;refine⟨_,_,s2,?_⟩;conv=>whnf
  have P3:=((P.nil fr).kw f2 (fun n h=>by omega)).kw f3 (fun n h=>by omega);refine ih (st.T.length-(n+1)) (by omega) (n+1) _ _ _ _ rfl (by omega) P3 W3 (fun x hx' hne BE=>?_) (fun c hc=>?_) (fun _=>by rw[qc,if_pos rfl]) (fun t ht=>by rw[qc,if_neg ht];exact h4 t ht) ⟨rfl,rfl,rfl,rfl,rfl,rfl,rfl,rfl,rfl,rfl,aL (by omega),trivial⟩
  ·rw[qc];by_cases e:x=n
   ·subst e;rw[if_pos rfl];obtain⟨j,hj⟩:=BE;rw[he j hj];refine decide_eq_true ?_;have:=List.length_pos_iff.2 hne;omega
   ·rw[if_neg (by omega)];exact h1 x (by omega) hne BE
  ·rw[qc,if_neg (by omega)];exact h2 c hc
theorem w2{B a:Nat}{hv:AV}{J x:Int}{ja:Jb}{R0:List Nat}{Q:AX→Env→Heap→Prop}(hL:st.L.length≤1000)(jy:bC st.j a ja)(ha:a<st.T.length)
  (hC:∀t jt,bC st.j t jt→jt.e<ja.e→t≠a→aU st.L ((a:Nat):Int)≠[]∧∀g,Wt st.T st.j st.L R0 (hF f) g→hF f t a=true∧(g t=0∨g t=a+1)∧Wt st.T st.j st.L R0 (hF f) (fun k=>if k=t then a+1 else g k))
  (hQ:∀h g e,Pl h col p r k st now R o→WA h col b9 iS f g→Wt st.T st.j st.L R0 (hF f) g→bZ e (wE hv k st.T r p b9 iS J++[(12,.int .i64 x)])→Q (.exit 4) e h):
  ∀(m n:Nat) (h:Heap) (g:Nat→Nat) (env:Env),st.T.length-n=m→n≤st.T.length→Pl h col p r k st now R o→WA h col b9 iS f g→Wt st.T st.j st.L R0 (hF f) g→
   bZ env (wE hv k st.T r p b9 iS J++[(12,.int .i64 x),(19,.int .i64 ((a:Nat):Int)),(20,.bool true),(21,.int .i64 ja.e),(22,.bool true),(23,.int .i64 ((n:Nat):Int))])→VC fs ms B false (.loop dK) env h Q:=by
 intro m;induction m using Nat.strongRecOn with
 |ind m ih=>
 intro n h g env hm hn P W w fO;have Dl:=P.inv.n4;refine aE 5 _ fO ?_;refine dm (z:=true) ?_;unfold wE;conv=>whnf
 have sv:decide (((n:Nat):Int)<(((ey st.T).length:Nat):Int))=decide (n<st.T.length):=by rw[bB];simp
 cases c:decide (n<st.T.length) with
 |false=>
  refine qm (sv.trans c) (fun hc=>?_)
  (try rw[hc])
  conv=>whnf
  exact hQ _ _ _ P W w ⟨rfl,rfl,rfl,rfl,rfl,rfl,rfl,rfl,trivial⟩
 |true=>
  refine qO (sv.trans c) (fun hc=>?_)
  (try rw[hc])
  conv=>whnf
  have hlt:n<st.T.length:=of_decide_eq_true c;refine oA P.room (fun hno=>?_) (fun t jt ht hjt=>?_)
  ·conv=>whnf
   exact ih (st.T.length-(n+1)) (by omega) (n+1) _ _ _ rfl (by omega) P W w ⟨rfl,rfl,rfl,rfl,rfl,rfl,rfl,rfl,rfl,rfl,rfl,rfl,aL (by omega),trivial⟩
  ·obtain rfl:n=t:=by omega
   conv=>whnf
   refine br (fun hc=>?_) (fun hc=>?_)<;>(try rw[hc])<;>(conv=>whnf)
   ·exact ih (st.T.length-(n+1)) (by omega) (n+1) _ _ _ rfl (by omega) P W w ⟨rfl,rfl,rfl,rfl,rfl,rfl,rfl,rfl,rfl,rfl,rfl,rfl,aL (by omega),trivial⟩
   ·have Z1:jt.e<ja.e:=by have:=of_decide_eq_false hc;omega
    refine br (fun hc=>?_) (fun hc=>?_)<;>(try rw[hc])<;>(conv=>whnf)
    ·exact ih (st.T.length-(n+1)) (by omega) (n+1) _ _ _ rfl (by omega) P W w ⟨rfl,rfl,rfl,rfl,rfl,rfl,rfl,rfl,rfl,rfl,rfl,rfl,aL (by omega),trivial⟩
    ·have hne:n≠a:=by
      rintro rfl;simp at hc
     obtain⟨c1,c2⟩:=hC n jt hjt Z1 hne;obtain⟨c3,c4,c5⟩:=c2 g w;rw[hF,Bool.and_eq_true,decide_eq_true_eq] at c3;refine j7 P.room hL ha fun vg v l hr fr hx _ he=>?_;have W1:=W.nil fr;conv=>whnf
     refine eE hr.read.1 ?_;conv=>whnf
     refine qm (by rw[he ja jy];have:=List.length_pos_iff.2 c1;simp;omega) (fun hc=>?_)
     (try rw[hc])
     conv=>whnf
     refine qm (decide_eq_false (by omega)) (fun hc=>?_)
     (try rw[hc])
     conv=>whnf
     refine⟨_,dO (by omega),?_⟩;conv=>whnf
     refine⟨_,dO (by omega),?_⟩;conv=>whnf
     refine⟨_,W1.ldH (by omega) (by omega),?_⟩;rw[c3.2];conv=>whnf
     refine⟨_,dO (by omega),?_⟩;conv=>whnf
     refine⟨_,W1.ldB (by omega),?_⟩;have fin:∀(K:Prop),(∀(h2:Heap),eV (.store 1) [.ptr iS (0+n*1),.int .i64 (IntKind.i64.wrap (((a:Nat):Int)+1))] vg=some (.undef,h2)→Pl h2 col p r k st now R o→WA h2 col b9 iS f (qc g n (a+1))→K)→K:=by
      intro K hK;obtain⟨q6,s2,W2,f2⟩:=W1.stB (t:=n) (by omega) (a+1);have ew:IntKind.i64.wrap (((a:Nat):Int)+1)=((a+1:Nat):Int):=by rw[IntWalk.i64_in _ (by omega)];omega
      exact hK q6 (by rw[ew];exact s2) ((P.nil fr).kw f2 (fun n h=>by omega)) W2
     have c5:Wt st.T st.j st.L R0 (hF f) (qc g n (a+1)):=c5;unfold Ln;rcases c4 with e0|e1
     ·rw[e0];conv=>whnf
      refine⟨_,dO (by omega),?_⟩;conv=>whnf
      refine fin _ fun h2 s2 P2 W2=>⟨_,_,s2,?_⟩;conv=>whnf
      exact ih (st.T.length-(n+1)) (by omega) (n+1) _ _ _ rfl (by omega) P2 W2 c5 ⟨rfl,rfl,rfl,rfl,rfl,rfl,rfl,rfl,rfl,rfl,rfl,rfl,aL (by omega),trivial⟩
     ·rw[e1];conv=>whnf
      refine⟨_,dO (by omega),?_⟩;conv=>whnf
      refine⟨_,W1.ldB (by omega),?_⟩;unfold Ln;rw[e1];conv=>whnf
      refine qm (by rw[IntWalk.i64_in _ (by omega)];simp) (fun hc=>?_)
      (try rw[hc])
      conv=>whnf
      refine⟨_,dO (by omega),?_⟩;conv=>whnf
      refine fin _ fun h2 s2 P2 W2=>⟨_,_,s2,?_⟩;conv=>whnf
      exact ih (st.T.length-(n+1)) (by omega) (n+1) _ _ _ rfl (by omega) P2 W2 c5 ⟨rfl,rfl,rfl,rfl,rfl,rfl,rfl,rfl,rfl,rfl,rfl,rfl,aL (by omega),trivial⟩
theorem w4{B t:Nat}{hv:AV}{J:Int}{Q:AX→Env→Heap→Prop}(ht:t<st.T.length)(hL:st.L.length≤1000)
  (hQ:∀h f e,Pl h col p r k st now R o→WA h col b9 iS f g→(∀x y,x<4→y<4→f0 (x*4+y)=true→aU st.L ((y:Nat):Int)≠[]→(∃j,bC st.j y j)→f (x*4+y)=true)→
   bZ e (wE hv k st.T r p b9 iS J++[(26,.int .i64 ((t:Nat):Int))])→Q (.exit 8) e h):
  ∀(m n:Nat) (h:Heap) (f:Nat→Bool) (env:Env),st.T.length-n=m→n≤st.T.length→Pl h col p r k st now R o→WA h col b9 iS f g→
   (∀x y,x<4→y<4→f0 (x*4+y)=true→aU st.L ((y:Nat):Int)≠[]→(∃j,bC st.j y j)→f (x*4+y)=true)→
   bZ env (wE hv k st.T r p b9 iS J++[(26,.int .i64 ((t:Nat):Int)),(27,.int .i64 ((n:Nat):Int))])→VC fs ms B false (.loop fD) env h Q:=by
 intro m;induction m using Nat.strongRecOn with
 |ind m ih=>
 intro n h f env hm hn P W w fO;have Dl:=P.inv.n4;refine aE 5 _ fO ?_;refine dm (z:=true) ?_;unfold wE;conv=>whnf
 have sv:decide (((n:Nat):Int)<(((ey st.T).length:Nat):Int))=decide (n<st.T.length):=by rw[bB];simp
 cases c:decide (n<st.T.length) with
 |false=>
  refine qm (sv.trans c) (fun hc=>?_)
  (try rw[hc])
  conv=>whnf
  exact hQ _ _ _ P W w ⟨rfl,rfl,rfl,rfl,rfl,rfl,rfl,rfl,trivial⟩
 |true=>
  refine qO (sv.trans c) (fun hc=>?_)
  (try rw[hc])
  conv=>whnf
  have hlt:n<st.T.length:=of_decide_eq_true c;refine⟨_,dO (by omega),?_⟩;conv=>whnf
  refine⟨_,dO (by omega),?_⟩;conv=>whnf
  refine⟨_,W.ldH (by omega) (by omega),?_⟩;have fin:∀(h1:Heap) (v:Bool),Fr h h1 []→(∀x y,x<4→y<4→f0 (x*4+y)=true→aU st.L ((y:Nat):Int)≠[]→(∃j,bC st.j y j)→qc f (t*4+n) v (x*4+y)=true)→∀(K:Prop),
    (∀(h2:Heap),eV (.store 1) [.ptr b9 (0+t*4+n*1),.bool v] h1=some (.undef,h2)→Pl h2 col p r k st now R o→WA h2 col b9 iS (qc f (t*4+n) v) g→K)→K:=by
   intro h1 v fr hw K hK;obtain⟨q6,s2,W2,f2⟩:=(W.nil fr).stH (t:=t) (n:=n) (by omega) (by omega) v;exact hK q6 s2 ((P.nil fr).kw f2 (fun n h=>by omega)) W2
  cases hf:f (t*4+n) with
  |false=>
   have hw:∀x y,x<4→y<4→f0 (x*4+y)=true→aU st.L ((y:Nat):Int)≠[]→(∃j,bC st.j y j)→qc f (t*4+n) false (x*4+y)=true:=by
    intro x y hx hy h1 h2 h3;have:=w x y hx hy h1 h2 h3;rw[qc];split
    ·rename_i e;rw[e,hf] at this;exact this
    ·exact this
   conv=>whnf
   refine⟨_,dO (by omega),?_⟩;conv=>whnf
   refine⟨_,dO (by omega),?_⟩;conv=>whnf
   refine fin h false (Fr.refl _ _) hw _ fun h2 s2 P2 W2=>⟨_,_,s2,?_⟩;conv=>whnf
   exact ih (st.T.length-(n+1)) (by omega) (n+1) _ _ _ rfl (by omega) P2 W2 hw ⟨rfl,rfl,rfl,rfl,rfl,rfl,rfl,rfl,aL (by omega),trivial⟩
  |true=>
   conv=>whnf
   refine j7 P.room hL hlt fun vg v l hr fr hx _ he=>?_;have hw:∀x y,x<4→y<4→f0 (x*4+y)=true→aU st.L ((y:Nat):Int)≠[]→(∃j,bC st.j y j)→qc f (t*4+n) (decide (((l.length:Nat):Int)>0)) (x*4+y)=true:=by
    intro x y hx' hy h1 h2 h3;have:=w x y hx' hy h1 h2 h3;rw[qc];split
    ·have e:y=n:=by omega
     subst e;obtain⟨j,hj⟩:=h3;rw[he j hj];refine decide_eq_true ?_;have:=List.length_pos_iff.2 h2;omega
    ·exact this
   conv=>whnf
   refine eE hr.read.1 ?_;conv=>whnf
   refine⟨_,dO (by omega),?_⟩;conv=>whnf
   refine⟨_,dO (by omega),?_⟩;conv=>whnf
   refine fin vg _ fr hw _ fun h2 s2 P2 W2=>⟨_,_,s2,?_⟩;conv=>whnf
   exact ih (st.T.length-(n+1)) (by omega) (n+1) _ _ _ rfl (by omega) P2 W2 hw ⟨rfl,rfl,rfl,rfl,rfl,rfl,rfl,rfl,aL (by omega),trivial⟩
theorem w3{B:Nat}{hv:AV}{J:Int}{Q:AX→Env→Heap→Prop}(hL:st.L.length≤1000)
  (hQ:∀h f e,Pl h col p r k st now R o→WA h col b9 iS f g→(∀x y,x<4→y<4→f0 (x*4+y)=true→aU st.L ((y:Nat):Int)≠[]→(∃j,bC st.j y j)→f (x*4+y)=true)→bZ e (wE hv k st.T r p b9 iS J)→Q (.exit 6) e h):
  ∀(m t:Nat) (h:Heap) (f:Nat→Bool) (env:Env),st.T.length-t=m→t≤st.T.length→Pl h col p r k st now R o→WA h col b9 iS f g→
   (∀x y,x<4→y<4→f0 (x*4+y)=true→aU st.L ((y:Nat):Int)≠[]→(∃j,bC st.j y j)→f (x*4+y)=true)→
   bZ env (wE hv k st.T r p b9 iS J++[(26,.int .i64 ((t:Nat):Int))])→VC fs ms B false (.loop fA) env h Q:=by
 intro m;induction m using Nat.strongRecOn with
 |ind m ih=>
 intro t h f env hm ht P W w fO;have Dl:=P.inv.n4;refine aE 5 _ fO ?_;refine mA (bt (aA (z:=true) ?_));unfold wE;conv=>whnf
 have sv:decide (((t:Nat):Int)<(((ey st.T).length:Nat):Int))=decide (t<st.T.length):=by rw[bB];simp
 cases c:decide (t<st.T.length) with
 |false=>
  refine qm (sv.trans c) (fun hc=>?_)
  (try rw[hc])
  conv=>whnf
  exact hQ _ _ _ P W w ⟨rfl,rfl,rfl,rfl,rfl,rfl,rfl,trivial⟩
 |true=>
  refine qO (sv.trans c) (fun hc=>?_)
  (try rw[hc])
  conv=>whnf
  have hlt:t<st.T.length:=of_decide_eq_true c;refine bt (bR (aM true ?_));conv=>whnf
  refine bR ?_;refine w4 (hv:=hv) (J:=J) (f0:=f0) hlt hL (fun h1 f1 e P1 W1 w1 he=>?_) st.T.length 0 _ _ _ rfl (Nat.zero_le _) P W w ⟨rfl,rfl,rfl,rfl,rfl,rfl,rfl,rfl,rfl,trivial⟩;show VC fs ms _ _ _ _ _ _;refine aE 5 _ he (aA (z:=true) ?_);unfold wE;conv=>whnf
  exact ih (st.T.length-(t+1)) (by omega) (t+1) _ _ _ rfl (by omega) P1 W1 w1 ⟨rfl,rfl,rfl,rfl,rfl,rfl,rfl,aL (by omega),trivial⟩
end
section
variable {h h' h0:Heap} {col aK:Nat→Nat} {p r k b9 iS:Nat} {now:Int} {R o:List Nat} {st:St} {f f0:Nat→Bool} {g g0:Nat→Nat}
theorem K4{x:Int}(hx0:0≤x)(hx:x<9600)(P:Pl h col p r k st now R o)(hk:k=3→st.T=[])(hn0:0≤now)(hn:now≤500)(h3:x%3=0)(hT:st.T≠[]){i:Nat}(hi:((i:Nat):Int)=x/3%st.T.length):
  VD fs ms 11 [.ptr p 0,.int .i64 x] h (fun v h'=>v=.bool true∧∃iL tv,Pl h' iL p r k tv now R o∧Kc h h' col iL PK∧
   (tv=st∨∃tk gg,st.T[i]?=some tk∧st.j[i]?=some none∧IntKind.i64.wrap (now+tk.d)=now+tk.d∧tv={st with j:=st.j.set i (some (mH tk [tD] now)),g:=gg})):=
 D0 hx0 hx P hk hn0 hn (fun _ _ h' aK P' f=>⟨rfl,aK,st,P',f,.inl rfl⟩)
  (fun _ _ i' tk gg hi' ht hj hw h' aK P' f=>by
   obtain rfl:i=i':=by omega
   exact⟨rfl,aK,_,P',f,.inr ⟨tk,gg,ht,hj,hw,rfl⟩⟩)
  (fun hno=>(hno ⟨h3,hT⟩).elim)
theorem OW{x:Int}(hx0:0≤x)(hx:x<9600)(P:Pl h col p r k st now R o)(hk:k=3→st.T=[])(hn0:0≤now)(hn:now≤500)(h3:¬(x%3=0∧st.T≠[])):
  VD fs ms 11 [.ptr p 0,.int .i64 x] h (fun v h'=>v=.bool true∧∃iL tC L' R' o',Mv st.T st.j st.L R tC L' R'∧Pl h' iL p r k {st with j:=tC,L:=L'} (now+1) R' o'∧Kc h h' col iL PK):=
 D0 hx0 hx P hk hn0 hn (fun a b=>(h3 ⟨a,b⟩).elim) (fun a b=>(h3 ⟨a,b⟩).elim) (fun _ h' aK tC L' R' o' m P' f=>⟨rfl,aK,tC,L',R',o',m,P',f⟩)
theorem w1z{B i:Nat}{hv:AV}{J:Int}{T:List Tk}{is was:Bool}{Q:AX→Env→Heap→Prop}{env:Env}(hT:0<T.length)(hb:(is&&!was)=false)
  (hQ:∀e,bZ e (wE hv k T r p b9 iS J)→Q (.exit 2) e h)(fO:bZ env (wE hv k T r p b9 iS J++[(13,.int .i64 ((i:Nat):Int)),(15,.bool was),(17,.bool is),(18,.int .i64 ((0:Nat):Int))])):
  VC fs ms B false (.loop dJ) env h Q:=by
 refine aE 5 _ fO ?_;refine dm (z:=true) ?_;unfold wE;conv=>whnf
 refine qO (by rw[bB];simp;omega) (fun hc=>?_)
 (try rw[hc])
 conv=>whnf
 cases is with
 |false=>
  conv=>whnf
  exact hQ _ ⟨rfl,rfl,rfl,rfl,rfl,rfl,rfl,trivial⟩
 |true=>
  cases was with
  |false=>cases hb
  |true=>
   conv=>whnf
   exact hQ _ ⟨rfl,rfl,rfl,rfl,rfl,rfl,rfl,trivial⟩
theorem w2z{B:Nat}{hv:AV}{J x:Int}{T:List Tk}{Q:AX→Env→Heap→Prop}{env:Env}
  (hQ:∀e,bZ e (wE hv k T r p b9 iS J++[(12,.int .i64 x)])→Q (.exit 4) e h)(fO:bZ env (wE hv k T r p b9 iS J++[(12,.int .i64 x),(20,.bool false),(23,.int .i64 ((0:Nat):Int))])):
  VC fs ms B false (.loop dK) env h Q:=by
 refine aE 5 _ fO ?_;refine dm (z:=true) ?_;unfold wE;conv=>whnf
 cases c:decide (((0:Nat):Int)<(((ey T).length:Nat):Int)) with
 |false=>
  conv=>whnf
  exact hQ _ ⟨rfl,rfl,rfl,rfl,rfl,rfl,rfl,rfl,trivial⟩
 |true=>
  conv=>whnf
  exact hQ _ ⟨rfl,rfl,rfl,rfl,rfl,rfl,rfl,rfl,trivial⟩
theorem I8{T:List Tk}{js:Js}{L:List En}{R2:List Nat}{a:Nat}{ja:Jb}(I:Inv T js L now (a::R2) o)(G:FQ T js L R a R2)(jy:bC js a ja):
  ∀t jt,bC js t jt→jt.e<ja.e→t≠a→aU L ((a:Nat):Int)≠[]∧∀g,Wt T js L R (hF f) g→hF f t a=true∧(g t=0∨g t=a+1)∧Wt T js L R (hF f) (fun k=>if k=t then a+1 else g k):=by
 intro t jt ht hlt hne;have vU:ah (t,jt.e) (a,ja.e)=true:=nQ.2 (.inl hlt);rcases G with⟨hR|⟨_,⟨j,F⟩,_⟩,hB⟩
 ·subst hR;have hn:t∉a::R2:=by
   intro h;rcases List.mem_cons.1 h with h|h
   ·exact hne h
   ·have:=I.sk.head t h ja jt jy ht;rw[TG vU] at this;cases this
  obtain⟨f1,jf,f2,f3,f4,f5⟩:=hB t jt ja ht jy hn vU;refine⟨fun h0=>f5 fun x hx e=>(z9 hx e h0).elim,fun g w=>?_⟩;obtain⟨_,c2,c3⟩:=w.check hB ht jy hn vU;exact⟨c2,c3,w.set ht jy hB hn vU⟩
 ·rw[jy.eq F.1,F.2 t jt ht] at vU;cases vU
theorem SI{T:List Tk}{js:Js}{L:List En}(Dl:T.length≤4)(I:Inv T js L now R o)(W:Wt T js L R (hF f0) g)(h:∀x y,x<4→y<4→f0 (x*4+y)=true→aU L ((y:Nat):Int)≠[]→(∃j,bC js y j)→f (x*4+y)=true):Wt T js L R (hF f) g:=by
 refine W.hd fun t k' hk hne hR ⟨j,hj⟩=>?_;rw[hF,Bool.and_eq_true,decide_eq_true_eq] at hk⊢;have:=I.lt hj;exact⟨hk.1,h t k' (by omega) hk.1 hk.2 hne (I.rj k' hR)⟩
theorem FL{B i kh:Nat}{how:List Int}{J x:Int}{T:List Tk}{Q:AX→Env→Heap→Prop}(hk:k=3→T=[])(hi:i<150)(hx0:0≤x)(hx:x<9600)(pM:¬(x%3=0∧T≠[]))(P:Pl h col p r k st now R o)(W:WA h col b9 iS f g)(w:Wt st.T st.j st.L R (hF f) g)(hT:st.T=T)(hn0:0≤now)(hn:now≤i){env:Env}
  (fO:bZ env (wE (.fz kh (ints how)) k T r p b9 iS J++[(12,.int .i64 x)])){c:AC}(hc:c=(match cH with|.seq _ (.seq (.block _ (.seq _ (.seq _ (.seq _ (.seq _ (.seq _ c)))))) _)=>c|_=>.bad))
  (hQ:∀h1 iL tv rX R1 o1 f1 g1 e,Pl h1 iL p r k tv rX R1 o1→WA h1 iL b9 iS f1 g1→Wt tv.T tv.j tv.L R1 (hF f1) g1→tv.T=T→0≤rX→rX≤now+1→bZ e (wE (.fz kh (ints how)) k T r p b9 iS J)→Q .normal e h1):VC fs ms B false c env h Q:=by
 subst hc;subst hT;refine aE 5 _ fO ?_;unfold wE;refine bt (aA (z:=true) ?_);conv=>whnf
 refine VD.mono (OW hx0 hx P hk hn0 (by omega) pM) ?_;rintro v h1 ⟨rfl,iL,tC,L',R',o',M,P1,iX⟩;conv=>whnf
 have w1:=w.mv P.inv.sk.nodup.1 M;have W1:=W.pk iX;refine aM true ?_;conv=>whnf
 refine bR ?_;have HB:L'.length≤1000:=by have:=P1.inv.ln;have h:(L'.length:Int)≤now+1:=this;omega
 refine w3 (st:={st with j:=tC,L:=L'}) (hv:=.fz kh (ints how)) (J:=J) (f0:=f) HB (fun h2 f2 e P2 W2 hw he=>?_) st.T.length 0 h1 f _ rfl (Nat.zero_le _) P1 W1 (fun x y _ _ h _ _=>h) ⟨rfl,rfl,rfl,rfl,rfl,rfl,rfl,rfl,trivial⟩;exact hQ h2 iL _ (now+1) R' o' f2 g e P2 W2 (SI P2.inv.n4 P2.inv w1 hw) rfl (by omega) (Int.le_refl _) he
theorem O0{B i kh:Nat}{how:List Int}{J:Int}{T:List Tk}{Q:AX→Env→Heap→Prop}(hk:k=3→T=[])(hlt:i<how.length)(hi:i<150)(hJ:J=((i:Nat):Int))(P:Pl h col p r k st now R o)(W:WA h col b9 iS f g)(w:Wt st.T st.j st.L R (hF f) g)(hT:st.T=T)(hn0:0≤now)(hn:now≤i){env:Env}
  (fO:bZ env (wE (.fz kh (ints how)) k T r p b9 iS J)){c:AC}(hc:c=(match cH with|.seq _ (.seq c _)=>c|_=>.bad))
  (hQ:∀h1 iL tv rX R1 o1 f1 g1 e,Pl h1 iL p r k tv rX R1 o1→WA h1 iL b9 iS f1 g1→Wt tv.T tv.j tv.L R1 (hF f1) g1→tv.T=T→0≤rX→rX≤now+1→bZ e (wE (.fz kh (ints how)) k T r p b9 iS J)→Q .normal e h1):VC fs ms B false c env h Q:=by
 subst hc;subst hT;have Dl:=P.inv.n4;have hb:=ku (i:=how[i]) (n:=9600) (by decide);have hL:st.L.length≤900:=by have:=P.inv.ln;omega
 refine bR ?_;refine aE 5 _ fO ?_;unfold wE;refine aM true ?_;conv=>whnf
 refine⟨_,by rw[hJ];exact n9 hlt,?_⟩;conv=>whnf
 refine⟨.int .i64 how[i],rfl,?_⟩;conv=>whnf
 refine aO (qn how[i] 9600 (by decide) (by decide)) ?_;conv=>whnf
 generalize gS how[i] 9600=x at*;by_cases pM:x%3=0∧st.T≠[]
 ·refine bt (aM true ?_);conv=>whnf
  refine⟨_,r6 hb.1 (by decide),?_⟩;rw[pM.1];conv=>whnf
  rw[bB];have hTl:0<st.T.length:=List.length_pos_iff.2 pM.2;refine Cr ?_;conv=>whnf
  refine qO (decide_eq_true (by omega)) (fun hc=>?_)
  (try rw[hc])
  conv=>whnf
  have Ul:(0:Int)<((st.T.length:Nat):Int):=by omega
  have V1:0≤x/3:=Int.ediv_nonneg hb.1 (by decide);obtain⟨n,hn'⟩:∃n:Nat,((n:Nat):Int)=x/3%((st.T.length:Nat):Int):=⟨(x/3%((st.T.length:Nat):Int)).toNat,Int.toNat_of_nonneg (Int.emod_nonneg _ (by omega))⟩;have Z4:n<st.T.length:=by have:=Int.emod_lt_of_pos (x/3) Ul;omega
  have xr:=r6 V1 Ul;rw[←hn'] at xr;refine aM true ?_;conv=>whnf
  refine⟨_,Ap hb.1 (by omega) (by decide),?_⟩;conv=>whnf
  rw[bB];refine⟨_,xr,?_⟩;conv=>whnf
  refine bt (VC.mono (Q:=fun x' e' g'=>x'=.normal∧g'=h∧∃was,bZ e' (wE (.fz kh (ints how)) k st.T r p b9 iS J++[(12,.int .i64 x),(13,.int .i64 ((n:Nat):Int)),(15,.bool was)])∧(was=true↔∃j,bC st.j n j)) (aA (z:=true) ?_) ?_)
  ·conv=>whnf
   refine oA P.room (fun hno=>?_) (fun n' j hn2 hj=>?_)
   ·conv=>whnf
    exact⟨rfl,rfl,false,⟨rfl,rfl,rfl,rfl,rfl,rfl,rfl,rfl,rfl,rfl,trivial⟩,⟨(fun h=>by cases h),fun⟨j,hj⟩=>(hno (cV Z4 hj)).elim⟩⟩
   ·obtain rfl:n=n':=by omega
    conv=>whnf
    exact⟨rfl,rfl,true,⟨rfl,rfl,rfl,rfl,rfl,rfl,rfl,rfl,rfl,rfl,trivial⟩,⟨fun _=>⟨j,hj⟩,fun _=>rfl⟩⟩
  ·rintro x' e' g' ⟨rfl,rfl,was,he,U8⟩;show VC fs ms _ _ _ _ _ _;refine aE 5 _ he ?_;unfold wE;refine aM true ?_;conv=>whnf
   refine VD.mono (K4 hb.1 hb.2 P hk hn0 (by omega) pM.1 pM.2 hn') ?_;rintro v h1 ⟨rfl,iL,tv,P1,iX,hst⟩;have Uk:tv.T=st.T:=by rcases hst with rfl|⟨tk,gg,_,_,_,rfl⟩<;>rfl
   have W1:=W.pk iX;conv=>whnf
   refine bt (VC.mono (Q:=fun x' e' g'=>x'=.normal∧g'=h1∧∃is,bZ e' (wE (.fz kh (ints how)) k st.T r p b9 iS J++[(13,.int .i64 ((n:Nat):Int)),(15,.bool was),(17,.bool is)])∧(is=true↔∃j,bC tv.j n j)) (aA (z:=true) ?_) ?_)
   ·conv=>whnf
    refine oA P1.room (fun hno=>?_) (fun n' j hn2 hj=>?_)
    ·conv=>whnf
     exact⟨rfl,rfl,false,⟨rfl,rfl,rfl,rfl,rfl,rfl,rfl,rfl,rfl,rfl,trivial⟩,⟨(fun h=>by cases h),fun⟨j,hj⟩=>(hno (cV (by rw[Uk];exact Z4) hj)).elim⟩⟩
    ·obtain rfl:n=n':=by omega
     conv=>whnf
     exact⟨rfl,rfl,true,⟨rfl,rfl,rfl,rfl,rfl,rfl,rfl,rfl,rfl,rfl,trivial⟩,⟨fun _=>⟨j,hj⟩,fun _=>rfl⟩⟩
   ·rintro x' e' g' ⟨rfl,rfl,is,he,his⟩;show VC fs ms _ _ _ _ _ _;refine aE 5 _ he ?_;unfold wE;refine bt (aM true ?_);conv=>whnf
    refine bR ?_;cases vV:is&&!was with
    |false=>
     have JN:tv=st:=by
      rcases hst with h|⟨tk,gg,h2,h3,_,rfl⟩
      ·exact h
      ·exfalso;have i1:is=true:=his.2 ⟨mH tk [tD] now,dw.2 (.inl ⟨rfl,(List.getElem?_eq_some_iff.1 h3).1,rfl⟩)⟩;have i2:was=false:=by
        cases hw:was with
        |false=>rfl
        |true=>
         obtain⟨j,hj⟩:=U8.1 hw;rw[bC,h3] at hj;cases hj
       rw[i1,i2] at vV;cases vV
     subst JN;refine w1z (hv:=.fz kh (ints how)) (J:=J) (T:=tv.T) hTl vV (fun e he=>?_) ⟨rfl,rfl,rfl,rfl,rfl,rfl,rfl,rfl,rfl,rfl,rfl,trivial⟩;show VC fs ms _ _ _ _ _ _;refine aE 5 _ he (aA (z:=true) ?_);unfold wE;conv=>whnf
     exact hQ _ iL _ _ _ _ _ _ _ P1 W1 w rfl hn0 (by omega) ⟨rfl,rfl,rfl,rfl,rfl,rfl,rfl,trivial⟩
    |true=>
     rw[Bool.and_eq_true,Bool.not_eq_true'] at vV;obtain⟨rfl,rfl⟩:=vV;rcases hst with rfl|⟨tk,gg,ht,hj0,hw,rfl⟩
     ·obtain⟨j,hj⟩:=his.1 rfl;have:=U8.2 ⟨j,hj⟩;cases this
     refine w1 (st:={st with j:=st.j.set n (some (mH tk [tD] now)),g:=gg}) (hv:=.fz kh (ints how)) (J:=J) (f0:=f) (g0:=g) Z4 (Nat.le_trans hL (by decide)) (fun h2 f2 g2 e P2 W2 q1 q2 q3 q4 he=>?_) st.T.length 0 _ f g _ rfl (Nat.zero_le _) P1 W1 (fun x hx=>by omega) (fun _ _=>rfl) (fun h=>by omega) (fun _ _=>rfl) ⟨rfl,rfl,rfl,rfl,rfl,rfl,rfl,rfl,rfl,rfl,rfl,trivial⟩;have w2:Wt st.T (st.j.set n (some (mH tk [tD] now))) st.L R (hF f2) g2:=by
      refine w.rel (t0:=tk) P.inv P2.inv hj0 rfl hw (fun k' hk' hne=>?_) (fun t k' Tl=>?_) q3 q4
      ·obtain⟨j,hj⟩:=P2.inv.rj k' hk';have hlt':=P2.inv.lt hj;have hlt':k'<st.T.length:=hlt';rw[hF,Bool.and_eq_true,decide_eq_true_eq];exact⟨by omega,q1 k' hlt' hne ⟨j,hj⟩⟩
      ·rw[hF,hF];by_cases Q6:k'<4
       ·rw[q2 (t*4+k') (by omega)]
       ·rw[decide_eq_false Q6];rfl
     show VC fs ms _ _ _ _ _ _;refine aE 5 _ he (aA (z:=true) ?_);unfold wE;conv=>whnf
     exact hQ _ iL _ _ _ _ _ _ _ P2 W2 w2 rfl hn0 (by omega) ⟨rfl,rfl,rfl,rfl,rfl,rfl,rfl,trivial⟩
 ·refine bt (VC.mono (Q:=fun x' e' g'=>x'=.normal∧g'=h∧bZ e' (wE (.fz kh (ints how)) k st.T r p b9 iS J++[(12,.int .i64 x)])) (aA (z:=true) ?_) ?_)
  ·conv=>whnf
   refine⟨_,r6 hb.1 (by decide),?_⟩;conv=>whnf
   refine br (fun hc=>?_) (fun hc=>?_)<;>(try rw[hc])<;>(conv=>whnf)
   ·rw[bB];refine br (fun hc=>?_) (fun hc=>?_)<;>(try rw[hc])<;>(conv=>whnf)
    ·exfalso;have h1:=eq_of_beq ‹(x%3==0)=true›;have h2:=of_decide_eq_true hc;exact pM ⟨h1,List.length_pos_iff.1 (by omega)⟩
    ·exact⟨rfl,rfl,rfl,rfl,rfl,rfl,rfl,rfl,rfl,rfl,trivial⟩
   ·exact⟨rfl,rfl,rfl,rfl,rfl,rfl,rfl,rfl,rfl,rfl,trivial⟩
  ·rintro x' e' g' ⟨rfl,rfl,he⟩;show VC fs ms _ _ _ _ _ _;refine aE 5 _ he ?_;unfold wE;refine bt (VC.mono (Q:=fun x' e' g1=>x'=.normal∧g1=g'∧((∃(a:Nat) (R2:List Nat),bZ e' (wE (.fz kh (ints how)) k st.T r p b9 iS J++[(12,.int .i64 x),(19,.int .i64 ((a:Nat):Int)),(20,.bool true)])∧FQ st.T st.j st.L R a R2∧Inv st.T st.j st.L now (a::R2) o)∨
    (bZ e' (wE (.fz kh (ints how)) k st.T r p b9 iS J++[(12,.int .i64 x),(19,.int .i64 0),(20,.bool false)])∧∀i j,¬bC st.j i j))) (aA (z:=true) ?_) ?_)
   ·conv=>whnf
    refine vt P.room hL (fun i j hj h2 _=>?_) (fun hno=>?_) (fun _ i j F hg=>?_) (fun _ i j F hg hl=>?_)
    ·rcases P.inv.sec i j hj with h|h<;>omega
    ·conv=>whnf
     exact⟨rfl,rfl,.inr ⟨⟨rfl,rfl,rfl,rfl,rfl,rfl,rfl,rfl,rfl,rfl,trivial⟩,hno⟩⟩
    ·conv=>whnf
     obtain⟨R2,G,I2⟩:=P.inv.Bp F hg;exact⟨rfl,rfl,.inl ⟨i,R2,⟨rfl,rfl,rfl,rfl,rfl,rfl,rfl,rfl,rfl,rfl,trivial⟩,G,I2⟩⟩
    ·obtain⟨a,R2,ht,G,I2⟩:=P.inv.Bq F hl;rw[ht];conv=>whnf
     exact⟨rfl,rfl,.inl ⟨a,R2,⟨rfl,rfl,rfl,rfl,rfl,rfl,rfl,rfl,rfl,rfl,trivial⟩,G,I2⟩⟩
   ·rintro x' e' g1 ⟨rfl,rfl,(⟨a,R2,he,G,I2⟩|⟨he,Re⟩)⟩
    ·show VC fs ms _ _ _ _ _ _;obtain⟨ja,jy⟩:=I2.rj a (by simp);have pH:=I2.lt jy;refine aE 5 _ he ?_;unfold wE;refine aM true ?_;conv=>whnf
     refine oA P.room (fun hno=>(hno (cV pH jy)).elim) (fun a' j' Lp hj'=>?_);obtain rfl:a=a':=by omega
     obtain rfl:ja=j':=jy.eq hj';conv=>whnf
     refine bt (aM true ?_);conv=>whnf
     refine bR ?_;refine w2 (hv:=.fz kh (ints how)) (J:=J) (x:=x) (R0:=R) (Nat.le_trans hL (by decide)) jy pH (I8 I2 G jy) (fun h2 g2 e P2 W2 w2 he=>?_) st.T.length 0 _ g _ rfl (Nat.zero_le _) P W w ⟨rfl,rfl,rfl,rfl,rfl,rfl,rfl,rfl,rfl,rfl,rfl,rfl,rfl,trivial⟩;show VC fs ms _ _ _ _ _ _;exact FL (i:=i) hk hi hb.1 hb.2 pM P2 W2 w2 rfl hn0 hn he rfl hQ
    ·show VC fs ms _ _ _ _ _ _;refine aE 5 _ he ?_;unfold wE;refine aM true ?_;conv=>whnf
     refine oA (t:=0) P.room (fun _=>?_) (fun a' j' Lp hj'=>(Re _ _ hj').elim);conv=>whnf
     refine bt (aM true ?_);conv=>whnf
     refine bR ?_;refine w2z (hv:=.fz kh (ints how)) (J:=J) (x:=x) (T:=st.T) (fun e he=>?_) ⟨rfl,rfl,rfl,rfl,rfl,rfl,rfl,rfl,rfl,rfl,trivial⟩;show VC fs ms _ _ _ _ _ _;exact FL (i:=i) hk hi hb.1 hb.2 pM P W w rfl hn0 hn he rfl hQ
end
section
variable {p r k b9 iS:Nat}
theorem O1{B kh:Nat}{how:List Int}{T:List Tk}{Q:AX→Env→Heap→Prop}(hk:k=3→T=[])(ZS:how.length<2^62)(hQ:∀e g,Q (.exit 0) e g):
  ∀(m i:Nat) (J:Int) (h:Heap) (col:Nat→Nat) (st:St) (now:Int) (R o:List Nat) (f:Nat→Bool) (g:Nat→Nat) (env:Env),150-i=m→i≤150→J=((i:Nat):Int)→Pl h col p r k st now R o→WA h col b9 iS f g→Wt st.T st.j st.L R (hF f) g→st.T=T→0≤now→now≤i→
   bZ env (wE (.fz kh (ints how)) k T r p b9 iS J)→VC fs ms B false (.loop cH) env h Q:=by
 intro m;induction m using Nat.strongRecOn with
 |ind m ih=>
 intro i J h col st now R o f g env hm hi hJ P W w hT hn0 hn fO;refine aE 5 _ fO ?_;unfold wE;have sv:decide (J<(((ints how).length:Nat):Int))=decide (i<how.length):=by rw[cm,hJ];simp
 refine mA (bt (aA (z:=true) ?_));cases c:decide (i<how.length) with
 |false=>
  rw[c] at sv;conv=>whnf
  refine qm (sv) (fun hc=>?_)
  (try rw[hc])
  conv=>whnf
  exact hQ _ _
 |true=>
  rw[c] at sv;have hlt:i<how.length:=of_decide_eq_true c;conv=>whnf
  refine qO (sv) (fun hc=>?_)
  (try rw[hc])
  conv=>whnf
  refine br (fun hc=>?_) (fun hc=>?_)<;>(try rw[hc])<;>(conv=>whnf)
  ·have hi4:i<150:=by have:=of_decide_eq_true hc;omega
   have hw:some (AV.int .i64 (IntKind.i64.wrap (J+1)))=some (AV.int .i64 (J+1)):=by rw[IntWalk.i64_in _ (by omega)]
   refine bt (O0 (i:=i) (kh:=kh) (how:=how) (J:=J) hk hlt hi4 hJ P W w hT hn0 hn ⟨rfl,rfl,rfl,rfl,rfl,rfl,rfl,trivial⟩ rfl fun h1 iL tv rX R1 o1 f1 g1 e P1 W1 w1 Uk QL Zt he=>?_);show VC fs ms _ _ _ _ _ _;refine aE 5 _ he (aA (z:=true) ?_);unfold wE;conv=>whnf
   exact ih (150-(i+1)) (by omega) (i+1) (J+1) h1 iL tv rX R1 o1 f1 g1 _ rfl (by omega) (by omega) P1 W1 w1 Uk QL (by omega) ⟨rfl,rfl,rfl,rfl,rfl,rfl,hw,trivial⟩
  ·exact hQ _ _
theorem SH{h:Heap}{col:Nat→Nat}:WA ((h.new (.cells (ue AV.bool 16 fun _=>false) true 0)).new (.cells (ue Ln 4 fun _=>0) true 0)) (dg (dg col h.next 202) (h.next+1) 203) h.next (h.next+1) (fun _=>false) (fun _=>0)∧
  Kc h ((h.new (.cells (ue AV.bool 16 fun _=>false) true 0)).new (.cells (ue Ln 4 fun _=>0) true 0)) col (dg (dg col h.next 202) (h.next+1) 203) (fun _=>False):=by
 have n1:(h.new (.cells (ue AV.bool 16 fun _=>false) true 0)).next=h.next+1:=rfl
 refine⟨⟨by show h.next<h.next+1+1;omega,by rw[cJ (by omega),dL (Nat.le_refl _)],?_,by show h.next+1<h.next+1+1;omega,dL (Nat.le_refl _),ai⟩,by show h.next≤h.next+1+1;omega,fun c hc _=>?_,fun c hc=>by rw[cJ (by omega),cJ hc]⟩
 ·rw[ay (by omega)];exact ai
 ·rw[ay (by omega),ay hc]
theorem Ci(kl kh:Nat)(l:List Tk)(how:List Int)(hl:l.length<2^62)(hh:how.length<2^62):PC fs ms 4 [.fz kl (ey l),.fz kh (ints how)] (.bool true):=by
 refine cG (by simp[cw,AV.cl,bW,bS]) rfl ?_;refine dz (af:=C4) rfl (Nat.le_of_ble_eq_true rfl) ?_;generalize hQ:(fun(v:AV) (_:Heap)=>v=.bool true)=Q;have hT:=Ag l;have nN:pG (ey (iP l)).length=3→iP l=[]:=Pk;have NC:=B3 l;have hmk:=Ki kl l hl;generalize pG (ey (iP l)).length=k at*;generalize iP l=T at*;conv=>whnf
 refine aM true ?_;conv=>whnf
 refine aM true ?_;conv=>whnf
 refine aO hmk ?_;conv=>whnf
 refine aM true ?_;conv=>whnf
 refine As (col:=fun _=>0) k T nN (by omega) (fun hn=>(hn NC).elim) (fun hok h1 iL r RM f1=>?_);conv=>whnf
 refine bt (aA (z:=true) ?_);conv=>whnf
 refine aM true ?_;conv=>whnf
 obtain⟨Y5,P3⟩:=KC (k:=k) (T:=T) RM;have PL:Pl _ _ h1.next r k ⟨T,[],List.replicate T.length none,List.replicate T.length 0⟩ 0 [] []:=⟨⟨.aH,P3⟩,Y5,EW hT⟩;refine aM true ?_;conv=>whnf
 refine aM true ?_;conv=>whnf
 obtain⟨WA0,K0⟩:=SH (h:=h1.new (.cells [.ptr r 0,.fz k (ey T),.int .i64 0,.aH] true 0)) (col:=dg iL h1.next 200);have PL2:=PL.kw K0 (fun _ h=>h.elim);refine bt (aM true ?_);conv=>whnf
 refine bR ?_;have W0:Wt T (List.replicate T.length none) [] [] (hF fun _=>false) (fun _=>0):=by
  intro t jt ht;rw[bC,List.getElem?_replicate] at ht;split at ht<;>cases ht
 refine O1 (kh:=kh) (how:=how) (T:=T) (k:=k) nN hh (fun e g=>?_) 150 0 0 _ _ ⟨T,[],List.replicate T.length none,List.replicate T.length 0⟩ 0 [] [] _ _ _ rfl (by omega) rfl PL2 WA0 W0 rfl (Int.le_refl _) (Int.le_refl _) ⟨rfl,rfl,rfl,rfl,rfl,rfl,rfl,trivial⟩;show VC fs ms _ _ _ _ _ _;refine aE 0 [] trivial (aA (z:=true) ?_);conv=>whnf
 refine aO zm ?_;conv=>whnf
 subst hQ;rfl
end
end Ir
end Go.Proofs.YtnlcabhfkpafmaaGreat
