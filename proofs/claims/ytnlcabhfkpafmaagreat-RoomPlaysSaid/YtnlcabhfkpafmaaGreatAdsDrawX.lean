/-
  Regions that draw their order: what a trace in the text's order says of places and stores.
  Regions that draw their order: a run in the text's order exists, and what it shows of numbers.
  Regions that draw their order: the heap that all orders work on; what holds when some operations are done.
  Regions that draw their order: one operation more is done; those that change no heap.
  Regions that draw their order: an effect is done.
  Regions that draw their order: an effect is done, in any order.
-/
import Derived.Test.YtnlcabhfkpafmaaGreatAdsSem
set_option linter.unusedSimpArgs false
set_option linter.unusedVariables false
namespace Go.Proofs.YtnlcabhfkpafmaaGreat
namespace Ads
def aB(tr:List aN)(h':Heap)(i:Nat):Heap:=dV (tr.drop i) h'
def cM:List bE→List aN→Nat→Env→Env
 |x::l,m::tr,i+1,e=>cM l tr i (e.put x.dst m.v)
 |_,_,_,e=>e
def fF:(Nat→Bool)→List bE→List aN→Env→Env
 |S,x::l,m::tr,e=>fF (fun j=>S (j+1)) l tr (cond (S 0) (e.put x.dst m.v) e)
 |_,_,_,e=>e
section
variable {P:Program} {H0:Nat}
theorem OT.length:∀{l:List bE} {e:Env} {h:Heap} {tr:List aN} {e':Env} {h':Heap},OT P H0 l e h tr e' h'→tr.length=l.length
 |[],_,_,tr,_,_,ho=>by cases tr<;>simp_all[OT]
 |x::l,_,_,tr,_,_,ho=>by
  cases tr with
  |nil=>simp[OT] at ho
  |cons m tr=>
   simp only[OT] at ho;rcases ho.2.2 with⟨_,_,_,hr⟩|⟨_,_,h1,_,hr⟩<;>simp[hr.length]
theorem OT.zero{l:List bE}{e:Env}{h:Heap}{tr:List aN}{e':Env}{h':Heap}(ho:OT P H0 l e h tr e' h'):aB tr h' 0=h:=by
 cases l with
 |nil=>cases tr<;>simp_all[OT,aB,dV]
 |cons x l=>cases tr with
  |nil=>simp[OT] at ho
  |cons m tr=>simp only[OT] at ho;simp[aB,dV,ho.1]
theorem OT.at:∀{l:List bE} {e:Env} {h:Heap} {tr:List aN} {e':Env} {h':Heap},OT P H0 l e h tr e' h'→∀{i:Nat} {x:bE},l[i]?=some x→
  ∃m,tr[i]?=some m∧m.h=aB tr h' i∧m.vals=x.args.map (cM l tr i e).ev∧
   ((m.on=false∧cE x (cM l tr i e)=false∧m.v=.undef∧aB tr h' (i+1)=aB tr h' i)∨
    (m.on=true∧cE x (cM l tr i e)=true∧uG P H0 x.op m.vals (aB tr h' i) m.v (aB tr h' (i+1))))
 |[],_,_,_,_,_,_,i,x,hx=>by simp at hx
 |y::l,e,h,tr,e',h',ho,i,x,hx=>by
  cases tr with
  |nil=>simp[OT] at ho
  |cons m tr=>
   simp only[OT] at ho;cases i with
   |zero=>
    simp at hx;subst hx;refine⟨m,rfl,rfl,by simpa[cM] using ho.2.1,?_⟩;rcases ho.2.2 with⟨h1,h2,h3,hr⟩|⟨h1,h2,h4,h3,hr⟩
    ·refine .inl ⟨h1,by simpa[cM] using h2,h3,?_⟩;show aB tr h' 0=m.h;rw[hr.zero,ho.1]
    ·refine .inr ⟨h1,by simpa[cM] using h2,?_⟩;show uG P H0 y.op m.vals m.h m.v (aB tr h' 0);rw[hr.zero,ho.1];exact h3
   |succ i=>
    simp at hx;rcases ho.2.2 with⟨h1,h2,h3,hr⟩|⟨h1,h2,h4,h3,hr⟩
    ·rw[←h3] at hr;obtain⟨m',g1,g2,g3,g4⟩:=hr.at hx;exact⟨m',by simpa using g1,by simpa[aB] using g2,by simpa[cM] using g3,by simpa[cM,aB] using g4⟩
    ·obtain⟨m',g1,g2,g3,g4⟩:=hr.at hx;exact⟨m',by simpa using g1,by simpa[aB] using g2,by simpa[cM] using g3,by simpa[cM,aB] using g4⟩
theorem OT.last{l:List bE}{e:Env}{h:Heap}{tr:List aN}{e':Env}{h':Heap}(ho:OT P H0 l e h tr e' h'){i:Nat}(hi:l.length≤i):aB tr h' i=h':=by
 unfold aB;rw[List.drop_eq_nil_of_le (by rw[ho.length];exact hi)];rfl
theorem OT.take:∀{l:List bE} {e:Env} {h:Heap} {tr:List aN} {e':Env} {h':Heap},OT P H0 l e h tr e' h'→∀i:Nat,
  OT P H0 (l.take i) e h (tr.take i) (cM l tr i e) (aB tr h' i)
 |[],e,h,tr,e',h',ho,i=>by
  cases tr with
  |cons _ _=>simp[OT] at ho
  |nil=>simp only[OT] at ho;obtain⟨rfl,rfl⟩:=ho;cases i<;>simp[OT,cM,aB,dV]
 |y::l,e,h,tr,e',h',ho,i=>by
  cases tr with
  |nil=>simp[OT] at ho
  |cons m tr=>
   cases i with
   |zero=>
    have:=ho.zero;simp[OT,cM,this]
   |succ i=>
    simp only[OT] at ho;simp only[List.take_succ_cons,OT,cM];refine⟨ho.1,ho.2.1,?_⟩;rcases ho.2.2 with⟨h1,h2,h3,hr⟩|⟨h1,h2,h4,h3,hr⟩
    ·refine .inl ⟨h1,h2,h3,?_⟩;have:=hr.take i;rw[h3];simpa[aB] using this
    ·refine .inr ⟨h1,h2,h4,h3,?_⟩;have:=hr.take i;simpa[aB] using this
theorem tw:∀{l:List bE} {e:Env} {h:Heap} {tr:List aN} {e':Env} {h':Heap},OT P H0 l e h tr e' h'→cM l tr l.length e=e'
 |[],e,h,tr,e',h',ho=>by cases tr<;>simp_all[OT,cM]
 |y::l,e,h,tr,e',h',ho=>by
  cases tr with
  |nil=>simp[OT] at ho
  |cons m tr=>
   simp only[OT] at ho;simp only[List.length_cons,cM];rcases ho.2.2 with⟨h1,h2,h3,hr⟩|⟨h1,h2,h4,h3,hr⟩
   ·rw[h3];exact tw hr
   ·exact tw hr
theorem fW{e:Env}{d:Option Nat}{v:AV}{t:Nat}(h:d≠some t):(e.put d v).get t=e.get t:=by rw[eD,if_neg h]
theorem mZ:∀(l:List bE) (tr:List aN) (S:Nat→Bool) (i:Nat) (d:Nat) (e1 e2:Env),e1.get d=e2.get d→tr.length=l.length→
  (∀j x,l[j]?=some x→x.dst=some d→S j=decide (j<i))→(fF S l tr e1).get d=(cM l tr i e2).get d
 |[],tr,S,i,d,e1,e2,he,hl,hs=>by cases tr<;>simp_all[fF,cM]
 |x::l,[],S,i,d,e1,e2,he,hl,hs=>by simp at hl
 |x::l,m::tr,S,i,d,e1,e2,he,hl,hs=>by
  simp only[fF];cases i with
  |zero=>
   have h0:(cond (S 0) (e1.put x.dst m.v) e1).get d=e2.get d:=by
    by_cases hx:x.dst=some d
    ·have:=hs 0 x rfl hx;simp at this;rw[this];exact he
    ·cases S 0
     ·exact he
     ·simp only[cond_true];rw[fW hx];exact he
   have:=mZ l tr (fun j=>S (j+1)) 0 d _ e2 h0 (by simpa using hl) (fun j y hy hd=>by
    have:=hs (j+1) y (by simpa using hy) hd;simpa using this)
   rw[this];cases l<;>cases tr<;>simp[cM]
  |succ i=>
   simp only[cM];refine mZ l tr (fun j=>S (j+1)) i d _ _ ?_ (by simpa using hl) (fun j y hy hd=>by
    have:=hs (j+1) y (by simpa using hy) hd;simpa using this)
   by_cases hx:x.dst=some d
   ·have:=hs 0 x rfl hx;simp at this;rw[this];simp only[cond_true];rw[eD,eD,if_pos hx,if_pos hx]
   ·rw[fW hx];cases S 0
    ·exact he
    ·simp only[cond_true];rw[fW hx];exact he
theorem ud:∀(l:List bE) (tr:List aN) (S S':Nat→Bool) (d:Nat) (e1 e2:Env),e1.get d=e2.get d→tr.length=l.length→
  (∀j x,l[j]?=some x→x.dst=some d→S j=S' j)→(fF S l tr e1).get d=(fF S' l tr e2).get d
 |[],tr,S,S',d,e1,e2,he,hl,hs=>by cases tr<;>simp_all[fF]
 |x::l,[],S,S',d,e1,e2,he,hl,hs=>by simp at hl
 |x::l,m::tr,S,S',d,e1,e2,he,hl,hs=>by
  simp only[fF];refine ud l tr _ _ d _ _ ?_ (by simpa using hl) (fun j y hy hd=>hs (j+1) y (by simpa using hy) hd);by_cases hx:x.dst=some d
  ·rw[hs 0 x rfl hx];cases S' 0
   ·exact he
   ·simp only[cond_true];rw[eD,eD,if_pos hx,if_pos hx]
  ·cases S 0<;>cases S' 0<;>simp only[cond_true,cond_false,fW hx]<;>exact he
theorem yj:∀(l:List bE) (tr:List aN) (S S':Nat→Bool) (i:Nat) (x:bE) (m:aN) (e:Env) (d:Nat),tr.length=l.length→l[i]?=some x→tr[i]?=some m→
  (∀j,S' j=(S j||decide (j=i)))→S i=false→(∀j y,i<j→l[j]?=some y→x.dst=some d→y.dst=some d→S j=false)→
  (fF S' l tr e).get d=((fF S l tr e).put x.dst m.v).get d
 |[],tr,S,S',i,x,m,e,d,hl,hx,hm,hs,hsi,Ei=>by simp at hx
 |y::l,[],S,S',i,x,m,e,d,hl,hx,hm,hs,hsi,Ei=>by simp at hl
 |y::l,n::tr,S,S',i,x,m,e,d,hl,hx,hm,hs,hsi,Ei=>by
  simp only[fF];cases i with
  |zero=>
   simp at hx hm;subst hx;subst hm;rw[hs 0,hsi];simp only[decide_true,Bool.or_true,cond_true,cond_false];by_cases hd:y.dst=some d
   ·rw[eD,if_pos hd];have:(fF (fun j=>S' (j+1)) l tr (e.put y.dst n.v)).get d=(cM l tr 0 (e.put y.dst n.v)).get d:=by
     refine mZ l tr _ 0 d _ _ rfl (by simpa using hl) (fun j z hz Wp=>?_);rw[hs (j+1),Ei (j+1) z (by omega) (by simpa using hz) hd Wp];simp
    rw[this];have:cM l tr 0 (e.put y.dst n.v)=e.put y.dst n.v:=by cases l<;>cases tr<;>simp[cM]
    rw[this,eD,if_pos hd]
   ·rw[fW hd];refine ud l tr _ _ d _ _ (fW hd) (by simpa using hl) (fun j z hz Wp=>?_);rw[hs (j+1)];simp
  |succ i=>
   simp at hx hm;have h0:S' 0=S 0:=by rw[hs 0];simp
   rw[h0];refine yj l tr _ _ i x m _ d (by simpa using hl) hx hm (fun j=>?_) hsi (fun j z hj hz SM Wp=>Ei (j+1) z (by omega) (by simpa using hz) SM Wp);rw[hs (j+1)];simp
theorem rC:∀(l:List bE) (tr:List aN) (t t':Tr dD) (b:Nat),t.get b=t'.get b→(iu l tr t).get b=(iu l tr t').get b
 |[],tr,t,t',b,h=>by cases tr<;>simpa[iu] using h
 |x::l,[],t,t',b,h=>by simpa[iu] using h
 |x::l,m::tr,t,t',b,h=>by
  simp only[iu];split
  ·refine rC l tr _ _ b ?_;rw[Tr.bT,Tr.bT,h]
  ·exact rC l tr _ _ b h
theorem vg:∀(l:List bE) (tr:List aN) (t:Tr dD) (b:Nat),(∀(j:Nat) (x:bE) (m:aN),l[j]?=some x→tr[j]?=some m→dL x m≠none→m.h.next≠b)→
  (iu l tr t).get b=t.get b
 |[],tr,t,b,h=>by cases tr<;>simp[iu]
 |x::l,[],t,b,h=>by simp[iu]
 |x::l,m::tr,t,b,h=>by
  have ht:=fun t=>vg l tr t b (fun j y n hy hn=>h (j+1) y n (by simpa using hy) (by simpa using hn));simp only[iu];split
  ·rename_i bk hb;rw[ht,Tr.bT,if_neg];intro e;exact h 0 x m rfl rfl (by rw[hb];simp) e.symm
  ·exact ht t
end
end Ads
end Go.Proofs.YtnlcabhfkpafmaaGreat
set_option linter.unusedSimpArgs false
set_option linter.unusedVariables false
namespace Go.Proofs.YtnlcabhfkpafmaaGreat
namespace Ads
section
variable {P:Program} {H0:Nat} {ro:Option Nat} {n:Nat}
theorem y8(ro:Option Nat)(n:Nat):(FW ro).room n:=fun _ h=>by simp[FW,Fence.wide] at h
theorem Ce{o:Oper}{a:Act}{w:World}{next:Act→World→Prop}{Q:Exit→Act→World→Prop}(h:o.wpIn (FW ro) n P a w next Q):
  (∃a' w',next a' w')∨∃ex a' w',Q ex a' w':=by
 have h:=h.2;generalize(o.semAt (FW ro).round a.eval).run P w=r at h;cases r with
 |ok x w'=>
  cases x<;>simp only[Oper.uponIn] at h
  case value v=>exact .inl ⟨_,_,h⟩
  case skip=>exact .inl ⟨_,_,h⟩
  case defer d=>exact .inl ⟨_,_,h⟩
  case enter f args=>
   obtain⟨e,w'',fr,hr,_⟩:=h.2.2 [] (y8 _ _);cases e with
   |returned v=>exact .inl ⟨_,_,hr⟩
   |panicked c=>exact .inr ⟨_,_,_,hr⟩
   |outgrown=>obtain⟨a1,w1,hq⟩:=hr;exact .inr ⟨_,_,_,hq⟩
  case row row args=>
   obtain⟨v,w'',hr,_⟩:=h.2 (Frame.ofRow P row args .normal) [] (y8 _ _);exact .inl ⟨_,_,hr⟩
  case round l f tmps as bd=>
   obtain⟨e,w'',hr,_⟩:=h.2.2 (Frame.ofRow P "" #[] .normal) [] (y8 _ _);cases e with
   |returned v=>exact .inl ⟨_,_,hr⟩
   |panicked c=>exact .inr ⟨_,_,_,hr⟩
   |outgrown=>obtain⟨a1,w1,hq⟩:=hr;exact .inr ⟨_,_,_,hq⟩
  all_goals (first|exact h.elim|skip)
 |halt x w'=>
  cases x<;>simp only[Oper.uponIn] at h
  case panic v=>exact .inr ⟨_,_,_,h⟩
  all_goals (first|exact h.elim|skip)
theorem kK{ops:Array Oper}{Q:Exit→Act→World→Prop}:∀{os:List Oper} {a:Act} {w:World},wpListIn (FW ro) n P ops Q os a w→∃ex a' w',Q ex a' w'
 |[],a,w,h=>⟨_,_,_,h⟩
 |o::os,a,w,h=>by
  unfold wpListIn at h;split at h
  ·rcases Ce h with⟨a',w',h'⟩|h'
   ·exact kK h'
   ·exact h'
  ·exact kK h.2
theorem wD{N:Nat}:∀{l:List bE} (i:Nat),cV N l=true→cV N (l.take i)=true
 |[],i,h=>by simp[cV]
 |x::l,0,h=>by simp[cV]
 |x::l,i+1,h=>by
  simp only[cV,List.take_succ_cons,Bool.and_eq_true] at h⊢;exact⟨h.1,wD i h.2⟩
theorem wC{N:Nat}:∀{l:List bE} (i:Nat),cV N l=true→cV N (l.drop i)=true
 |[],i,h=>by simp[cV]
 |x::l,0,h=>by simpa using h
 |x::l,i+1,h=>by
  simp only[cV,Bool.and_eq_true] at h;simpa using wC i h.2
theorem tO{N:Nat}:∀{l:List bE} {i:Nat} {x:bE},cV N l=true→l[i]?=some x→vE N x.dst=true
 |[],i,x,h,hx=>by simp at hx
 |y::l,0,x,h,hx=>by simp only[cV,Bool.and_eq_true] at h;simp at hx;subst hx;exact h.1
 |y::l,i+1,x,h,hx=>by simp only[cV,Bool.and_eq_true] at h;simp at hx;exact tO h.2 hx
theorem OT.sV{l:List bE}{e:Env}{h:Heap}{tr:List aN}{e':Env}{h':Heap}(ho:OT P H0 l e h tr e' h'){ops:Array Oper}{os:List Oper}
  (hos:os.map (bG P ops)=l){N:Nat}(hok:cV N l=true){ρ:cF}{D:Dom}{w:World}{a:Act}(hi:Inv P H0 ρ D h w)(he:bJ ρ D N e a)(i:Nat):
  ∃ρ' w' a',Inv P H0 ρ' (grow D h.next (aB tr h' i).next) (aB tr h' i) w'∧bJ ρ' (grow D h.next (aB tr h' i).next) N (cM l tr i e) a'∧h.next≤(aB tr h' i).next:=by
 have:=nV (ro:=none) (n:=0) (ho.take i) (ops:=ops) (os:=os.take i) (by rw[List.map_take,hos]) (wD i hok) hi he
  (Q:=fun _ a' w'=>∃ρ',Inv P H0 ρ' (grow D h.next (aB tr h' i).next) (aB tr h' i) w'∧bJ ρ' (grow D h.next (aB tr h' i).next) N (cM l tr i e) a'∧h.next≤(aB tr h' i).next)
  (fun ρ' w' a' g1 g2 g3 g4=>⟨ρ',g1,g3,g2.next⟩)
 obtain⟨_,a',w',ρ',g⟩:=kK this;exact⟨ρ',w',a',g⟩
theorem OT.drop:∀{l:List bE} {e:Env} {h:Heap} {tr:List aN} {e':Env} {h':Heap},OT P H0 l e h tr e' h'→∀i:Nat,
  OT P H0 (l.drop i) (cM l tr i e) (aB tr h' i) (tr.drop i) e' h'
 |[],e,h,tr,e',h',ho,i=>by
  cases tr with
  |cons _ _=>simp[OT] at ho
  |nil=>simp only[OT] at ho;obtain⟨rfl,rfl⟩:=ho;cases i<;>simp[OT,cM,aB,dV]
 |y::l,e,h,tr,e',h',ho,i=>by
  cases tr with
  |nil=>simp[OT] at ho
  |cons m tr=>
   cases i with
   |zero=>
    have:=ho.zero;simpa[cM,this] using ho
   |succ i=>
    simp only[OT] at ho;simp only[List.drop_succ_cons,cM];rcases ho.2.2 with⟨h1,h2,h3,hr⟩|⟨h1,h2,h4,h3,hr⟩
    ·have:=hr.drop i;rw[h3];exact this
    ·exact hr.drop i
theorem Be(tr:List aN)(h':Heap)(i j:Nat):aB (tr.drop i) h' j=aB tr h' (i+j):=by
 unfold aB;rw[List.drop_drop]
structure ZV(P:Program)(H0:Nat)(D:Dom)(N:Nat)(l:List bE)(e:Env)(h:Heap)(tr:List aN)(h':Heap):Prop where
 mono:∀i j,i≤j→(aB tr h' i).next≤(aB tr h' j).next
 low:∀i,h.next≤(aB tr h' i).next
 top:∀i b,(aB tr h' i).next≤b→(aB tr h' i).get b=none
 run:∀i,∃ρ' w' a',Inv P H0 ρ' (grow D h.next (aB tr h' i).next) (aB tr h' i) w'∧bJ ρ' (grow D h.next (aB tr h' i).next) N (cM l tr i e) a'
theorem OT.tY{l:List bE}{e:Env}{h:Heap}{tr:List aN}{e':Env}{h':Heap}(ho:OT P H0 l e h tr e' h'){ops:Array Oper}{os:List Oper}
  (hos:os.map (bG P ops)=l){N:Nat}(hok:cV N l=true){ρ:cF}{D:Dom}{w:World}{a:Act}(hi:Inv P H0 ρ D h w)(he:bJ ρ D N e a):
  ZV P H0 D N l e h tr h' where
 mono:=fun i j hij=>by
  obtain⟨ρ',w',a',g1,g2,g3⟩:=ho.sV hos hok hi he i;obtain⟨_,_,_,_,_,g⟩:=(ho.drop i).sV (os:=os.drop i) (by rw[List.map_drop,hos]) (wC i hok) g1 g2 (j-i);rw[Be] at g;have:i+(j-i)=j:=by omega
  rw[this] at g;exact g
 low:=fun i=>by
  obtain⟨_,_,_,_,_,g⟩:=ho.sV hos hok hi he i;exact g
 top:=fun i=>by
  obtain⟨_,_,_,g,_,_⟩:=ho.sV hos hok hi he i;exact g.top
 run:=fun i=>by
  obtain⟨ρ',w',a',g1,g2,_⟩:=ho.sV hos hok hi he i;exact⟨ρ',w',a',g1,g2⟩
end
mutual
theorem jM{D D':Dom}:∀{v:AV},v.aY D→v.aY D'→v.aY fun b=>D b∧D' b
 |.bool _,_,_|.int _ _,_,_|.str _,_,_|.aQ,_,_|.aL,_,_|.gY _,_,_|.kF,_,_|.kf,_,_|.kE,_,_=>by simp[AV.aY]
 |.ptr b o,h,h'=>by simp only[AV.aY] at*;exact⟨h,h'⟩
 |.sl b o l c op,h,h'=>by simp only[AV.aY] at*;exact⟨h,h'⟩
 |.rest b o k,h,h'=>by simp only[AV.aY] at*;exact⟨h,h'⟩
 |.map b,h,h'=>by simp only[AV.aY] at*;exact⟨h,h'⟩
 |.yield b,h,h'=>by simp only[AV.aY] at*;exact⟨h,h'⟩
 |.func fn first aM,h,h'=>by
  simp only[AV.aY] at*;exact⟨h.1,lF h.2.1 h'.2.1,lF h.2.2 h'.2.2⟩
 |.iface t v,h,h'=>by
  simp only[AV.aY] at*;exact jM h h'
 |.agg cs,h,h'=>by
  simp only[AV.aY] at*;exact lF h h'
 |.cq cs,h,h'=>by
  simp only[AV.aY] at*;exact lF h h'
 |.fz _ _,h,h'=>by simp only[AV.aY] at h
 |.fp _ _,h,h'=>by simp only[AV.aY] at h
theorem lF{D D':Dom}:∀{l:List AV},bn D l→bn D' l→bn (fun b=>D b∧D' b) l
 |[],_,_=>by simp[bn]
 |v::vs,h,h'=>by
  simp only[bn] at*;exact⟨jM h.1 h'.1,lF h.2 h'.2⟩
end
theorem xl{P:Program}{H0:Nat}{ρ ρ':cF}{D D':Dom}{L L':Loc}{x:dD}{w w':World}(h:eC P H0 ρ D L x w)(h':eC P H0 ρ' D' L' x w'):
  eC P H0 ρ (fun b=>D b∧D' b) L x w:=by
 cases x with
 |cells vs wr es=>
  obtain⟨c,t,fr,hc,h1,h2⟩:=h;obtain⟨c',t',fr',fV,uV,vQ⟩:=h';exact⟨c,t,fr,hc,fun i v hv=>⟨(h1 i v hv).1,jM (h1 i v hv).2 (uV i v hv).2⟩,h2⟩
 |map es bs c=>
  obtain⟨ms,k,hc,h0,h1,h2,h3⟩:=h;obtain⟨ms',k',fV,h0',uV,vQ,_⟩:=h';exact⟨ms,k,hc,h0,h1,fun p hp=>⟨jM (h2 p hp).1 (vQ p hp).1,jM (h2 p hp).2 (vQ p hp).2⟩,h3⟩
 |iter m since seen last=>
  obtain⟨h0,hm,ho,sn,hc,hs⟩:=h;exact⟨h0,⟨hm,h'.2.1⟩,ho,sn,hc,hs⟩
 |loop st fZ e ps a b=>
  obtain⟨h0,l,hl,g1,g2,g3,g4,g5⟩:=h;obtain⟨h0',l',hl',Z5,KF,g3',g4',g5'⟩:=h';exact⟨h0,l,hl,g1,g2,g3,fun i=>jM (g4 i) (g4' i),g5⟩
 |defers=>exact h
end Ads
end Go.Proofs.YtnlcabhfkpafmaaGreat
set_option linter.unusedSimpArgs false
set_option linter.unusedVariables false
namespace Go.Proofs.YtnlcabhfkpafmaaGreat
namespace Ads
def oG(bs:List Nat)(j i:Nat):Prop:=(bs.getD j 0).testBit i=true
structure Rg(P:Program)(H0:Nat)(D:Dom)(N:Nat)(l:List bE)(bs:List Nat)(e:Env)(h:Heap)(tr:List aN)(e':Env)(h':Heap):Prop where
 ot:OT P H0 l e h tr e' h'
 tY:ZV P H0 D N l e h tr h'
 MY:∀b,D b→b<h.next
 pairs:∀(i j:Nat) (x y:bE),i<j→l[i]?=some x→l[j]?=some y→oG bs j i∨(¬(bU x.op=true∧bU y.op=true)∧nC x y=true)
 ok:cV N l=true
section
variable {P:Program} {H0:Nat} {D:Dom} {N:Nat} {l:List bE} {bs:List Nat} {e:Env} {h:Heap} {tr:List aN} {e':Env} {h':Heap}
theorem Rg.le_last(R:Rg P H0 D N l bs e h tr e' h')(c:Nat):(aB tr h' c).next≤h'.next:=by
 by_cases hc:c≤l.length
 ·have:=R.tY.mono c l.length hc
  rwa [R.ot.last (Nat.le_refl _)] at this
 ·rw[R.ot.last (by omega)];exact Nat.le_refl _
theorem Rg.made(R:Rg P H0 D N l bs e h tr e' h'){j:Nat}{x:bE}{m:aN}{b:dD}(hx:l[j]?=some x)(hm:tr[j]?=some m)(hb:dL x m=some b):
  (∃o f,x.op=.a o∧m.on=true∧aI o m.vals=some (b,f)∧m.v=f (aB tr h' j).next)∧aB tr h' (j+1)=(aB tr h' j).new b∧m.h=aB tr h' j:=by
 obtain⟨m',g1,g2,g3,g4⟩:=R.ot.at hx;rw[hm] at g1;cases g1
 unfold dL at hb;split at hb
 ·rename_i o ho eM;simp only[Option.map_eq_some_iff] at hb;obtain⟨⟨b',f⟩,hb,rfl⟩:=hb;rcases g4 with g4|⟨k1,k2,k3⟩
  ·rw[g4.1] at eM;simp at eM
  ·rw[ho] at k3;obtain⟨x',f',q1,q2,q3⟩:=k3;rw[hb] at q1;cases q1
   exact⟨⟨o,f,ho,eM,hb,q2⟩,q3,g2⟩
 ·simp at hb
theorem Rg.still(R:Rg P H0 D N l bs e h tr e' h'){j:Nat}{x:bE}{m:aN}(hx:l[j]?=some x)(hm:tr[j]?=some m)(hb:dL x m=none)(he:bU x.op=false):
  aB tr h' (j+1)=aB tr h' j:=by
 obtain⟨m',g1,g2,g3,g4⟩:=R.ot.at hx;rw[hm] at g1;cases g1
 rcases g4 with g4|⟨k1,k2,k3⟩
 ·exact g4.2.2.2
 ·cases ho:x.op with
  |p o=>rw[ho] at k3;exact k3.2
  |r o=>rw[ho] at k3;exact k3.2
  |a o=>
   rw[ho] at k3;obtain⟨x',f',q1,q2,q3⟩:=k3;unfold dL at hb;rw[ho,k1] at hb;simp[q1] at hb
  |bad=>rw[ho] at k3;exact k3.elim
  |e o=>rw[ho] at he;simp[bU] at he
  |call=>rw[ho] at he;simp[bU] at he
  |invoke s=>rw[ho] at he;simp[bU] at he
  |panic=>rw[ho] at he;simp[bU] at he
theorem Rg.E0(R:Rg P H0 D N l bs e h tr e' h'){j:Nat}{x:bE}(hx:l[j]?=some x):∃m,tr[j]?=some m:=by
 obtain⟨m,g,_⟩:=R.ot.at hx;exact⟨m,g⟩
theorem Rg.Bu(R:Rg P H0 D N l bs e h tr e' h'){j i:Nat}{x:bE}{m:aN}{b:dD}(hx:l[j]?=some x)(hm:tr[j]?=some m)(hb:dL x m=some b)(hji:j<i):
  (aB tr h' j).next<(aB tr h' i).next:=by
 have h1:=R.made hx hm hb;have h2:=R.tY.mono (j+1) i (by omega);rw[h1.2.1] at h2;simp at h2;omega
theorem Rg.E5(R:Rg P H0 D N l bs e h tr e' h'){c b:Nat}(hb:b<(aB tr h' c).next):(cJ l tr h' c).get b=(aB tr h' c).get b:=by
 refine vg _ _ _ b ?_;intro j x m hx hm hne;rw[List.getElem?_drop] at hx hm;obtain⟨bk,CV⟩:=Option.ne_none_iff_exists'.1 hne;rw[(R.made hx hm CV).2.2];have:=R.tY.mono c (c+j) (by omega);omega
theorem BN:∀(l:List bE) (tr:List aN) (t:Tr dD) (j:Nat) (x:bE) (m:aN) (b:dD),l[j]?=some x→tr[j]?=some m→dL x m=some b→
  (∀(i:Nat) (y:bE) (n:aN),j<i→l[i]?=some y→tr[i]?=some n→dL y n≠none→n.h.next≠m.h.next)→(iu l tr t).get m.h.next=some b
 |[],tr,t,j,x,m,b,hx,hm,hb,hi=>by simp at hx
 |y::l,[],t,j,x,m,b,hx,hm,hb,hi=>by simp at hm
 |y::l,n::tr,t,0,x,m,b,hx,hm,hb,hi=>by
  simp at hx hm;subst hx;subst hm;simp only[iu,hb];rw[vg,Tr.bT,if_pos rfl];intro i z k hz hk hne;exact hi (i+1) z k (by omega) (by simpa using hz) (by simpa using hk) hne
 |y::l,n::tr,t,j+1,x,m,b,hx,hm,hb,hi=>by
  have:=fun t=>BN l tr t j x m b (by simpa using hx) (by simpa using hm) hb (fun i z k hlt hz hk=>hi (i+1) z k (by omega) (by simpa using hz) (by simpa using hk));simp only[iu];split
  ·exact this _
  ·exact this _
theorem Rg.Sq(R:Rg P H0 D N l bs e h tr e' h'){c j:Nat}{x:bE}{m:aN}{b:dD}(hx:l[j]?=some x)(hm:tr[j]?=some m)(hb:dL x m=some b)(hc:c≤j):
  (cJ l tr h' c).get (aB tr h' j).next=some b:=by
 have Bn:=(R.made hx hm hb).2.2;have:=BN (l.drop c) (tr.drop c) (dV (tr.drop c) h').m (j-c) x m b (by rw[List.getElem?_drop];rw[show c+(j-c)=j by omega];exact hx)
  (by rw[List.getElem?_drop];rw[show c+(j-c)=j by omega];exact hm) hb (fun i y n hlt hy hn hne=>by
   rw[List.getElem?_drop] at hy hn;obtain⟨bk,CV⟩:=Option.ne_none_iff_exists'.1 hne;rw[(R.made hy hn CV).2.2,Bn];have:=R.Bu hx hm hb (i:=c+i) (by omega);omega)
 rw[Bn] at this;exact this
theorem Rg.PF(R:Rg P H0 D N l bs e h tr e' h'){c b:Nat}(hb:h'.next≤b):(cJ l tr h' c).get b=none:=by
 have:(cJ l tr h' c).get b=(aB tr h' c).get b:=by
  refine vg _ _ _ b ?_;intro j x m hx hm hne;rw[List.getElem?_drop] at hx hm;obtain⟨bk,CV⟩:=Option.ne_none_iff_exists'.1 hne;rw[(R.made hx hm CV).2.2];have h1:=R.Bu hx hm CV (i:=c+j+1) (by omega);have h2:=R.le_last (c+j+1);omega
 rw[this];exact R.tY.top c b (Nat.le_trans (R.le_last c) hb)
theorem drop_cons{α:Type}{l:List α}{i:Nat}{x:α}(h:l[i]?=some x):l.drop i=x::l.drop (i+1):=by
 obtain⟨hlt,rfl⟩:=List.getElem?_eq_some_iff.1 h;exact List.drop_eq_getElem_cons hlt
theorem Rg.Sr(R:Rg P H0 D N l bs e h tr e' h'){i:Nat}{x:bE}(hx:l[i]?=some x)(he:bU x.op=false)(b:Nat):
  (cJ l tr h' i).get b=(cJ l tr h' (i+1)).get b:=by
 obtain⟨m,hm⟩:=R.E0 hx;show(iu (l.drop i) (tr.drop i) (aB tr h' i).m).get b=(iu (l.drop (i+1)) (tr.drop (i+1)) (aB tr h' (i+1)).m).get b;rw[drop_cons hx,drop_cons hm];simp only[iu];cases hb:dL x m with
 |none=>simp only[];rw[R.still hx hm hb he]
 |some bk=>
  simp only[];have:=R.made hx hm hb;rw[this.2.1,this.2.2];rfl
theorem Rg.tZ(R:Rg P H0 D N l bs e h tr e' h'){c:Nat}(b:Nat):∀(k:Nat),(∀j x,c≤j→j<c+k→l[j]?=some x→bU x.op=false)→(cJ l tr h' c).get b=(cJ l tr h' (c+k)).get b
 |0,_=>rfl
 |k+1,hn=>by
  rw[R.tZ b k (fun j x h1 h2=>hn j x h1 (by omega))];cases hx:l[c+k]? with
  |some x=>exact R.Sr hx (hn (c+k) x (by omega) (by omega) hx) b
  |none=>
   have hlen:l.length≤c+k:=List.getElem?_eq_none_iff.1 hx;show(iu (l.drop (c+k)) (tr.drop (c+k)) (aB tr h' (c+k)).m).get b=(iu (l.drop (c+k+1)) (tr.drop (c+k+1)) (aB tr h' (c+k+1)).m).get b;have e1:l.drop (c+k)=[]:=List.drop_eq_nil_of_le hlen;have e2:l.drop (c+k+1)=[]:=List.drop_eq_nil_of_le (by omega);rw[R.ot.last hlen,R.ot.last (i:=c+k+1) (by omega),e1,e2];simp[iu]
theorem Rg.US(R:Rg P H0 D N l bs e h tr e' h'){i:Nat}{x:bE}(hx:l[i]?=some x)(he:bU x.op=true){b:Nat}(hb:(aB tr h' (i+1)).next≤b):
  (cJ l tr h' i).get b=(cJ l tr h' (i+1)).get b:=by
 obtain⟨m,hm⟩:=R.E0 hx;show(iu (l.drop i) (tr.drop i) (aB tr h' i).m).get b=(iu (l.drop (i+1)) (tr.drop (i+1)) (aB tr h' (i+1)).m).get b;rw[drop_cons hx,drop_cons hm];have hn:dL x m=none:=by
  unfold dL;split
  ·rename_i o ho eM;rw[ho] at he;simp[bU] at he
  ·rfl
 simp only[iu,hn];refine rC _ _ _ _ b ?_;have h1:=R.tY.top (i+1) b hb;have h2:=R.tY.top i b (Nat.le_trans (R.tY.mono i (i+1) (by omega)) hb);unfold Heap.get at h1 h2;rw[h1,h2]
def Cut(l:List bE)(S:Nat→Bool)(c:Nat):Prop:=∀j x,l[j]?=some x→bU x.op=true→(S j=true↔j<c)
theorem Rg.E4(R:Rg P H0 D N l bs e h tr e' h'){S:Nat→Bool}{c c':Nat}(h1:Cut l S c)(h2:Cut l S c')(b:Nat):(cJ l tr h' c).get b=(cJ l tr h' c').get b:=by
 have key:∀c c',c≤c'→Cut l S c→Cut l S c'→(cJ l tr h' c).get b=(cJ l tr h' c').get b:=by
  intro c c' hle g1 g2;have:=R.tZ (c:=c) b (c'-c) (fun j x hj1 hj2 hx=>by
   cases hx':bU x.op with
   |false=>rfl
   |true=>
    have a1:=g1 j x hx hx';have a2:=g2 j x hx hx';have:=a1.1 (a2.2 (by omega));omega)
  rwa [show c+(c'-c)=c' by omega] at this
 by_cases hle:c≤c'
 ·exact key c c' hle h1 h2
 ·exact(key c' c (by omega) h2 h1).symm
def DS(D:Dom)(l:List bE)(tr:List aN)(h':Heap)(S:Nat→Bool):Dom:=fun b=>
 D b∨∃j,S j=true∧j<l.length∧(aB tr h' j).next≤b∧b<(aB tr h' (j+1)).next
structure J(P:Program)(H0:Nat)(D:Dom)(N:Nat)(l:List bE)(bs:List Nat)(e:Env)(h:Heap)(tr:List aN)(h':Heap)(qQ:cF)(w0:World)(a0:Act)
  (S:Nat→Bool)(c:Nat)(ρ:cF)(a:Act)(w:World):Prop where
 cut:Cut l S c
 closed:∀j,S j=true→∀i,oG bs j i→S i=true
 inv:Inv P H0 ρ (DS D l tr h' S) (cJ l tr h' c) w
 ext:Ext qQ D h w0 ρ (cJ l tr h' c) w
 made:∀(j:Nat) (x:bE) (m:aN) (bk:dD),l[j]?=some x→tr[j]?=some m→dL x m=some bk→S j=false→(cJ l tr h' c).get (aB tr h' j).next=some bk
 env:bJ ρ (DS D l tr h' S) N (fF S l tr e) a
 defers:a.defers=a0.defers
theorem Inv.congr{ρ:cF}{h2:Heap}{w:World}(i:Inv P H0 ρ D h w)(hn:h2.next=h.next)(hg:∀b,h2.get b=h.get b):Inv P H0 ρ D h2 w:=by
 have iM:∀b,h2.wr b=h.wr b:=fun b=>by simp only[Heap.wr,hg]
 refine⟨fun b hb=>by rw[hn];exact i.lt b hb,fun b hb=>by rw[hg];exact i.top b (by omega),i.low,fun b x hb hx=>i.bK b x hb (by rw[←hg];exact hx),fun b b' hb hb' hne hw hx=>?_⟩;rw[iM] at hw;rw[hg] at hx;exact i.apart b b' hb hb' hne hw hx
theorem Ext.congr{ρ ρ':cF}{h2 h3:Heap}{w w':World}(x:Ext ρ D h w ρ' h2 w')(hn:h3.next=h2.next)(hg:∀b,h3.get b=h2.get b):Ext ρ D h w ρ' h3 w':=by
 have iM:∀b,h3.wr b=h2.wr b:=fun b=>by simp only[Heap.wr,hg]
 exact⟨by rw[hn];exact x.next,x.bB,x.size,x.frame,fun b h1 h2=>by rw[hg];exact x.iD b h1 h2,fun b h1 h2=>by rw[hg] at h2;rw[iM];exact x.old b h1 h2,
  fun b h1 h2=>x.fresh b h1 (by omega),x.tape,x.os,x.output⟩
theorem bJ.congr{ρ:cF}{e1 e2:Env}{a:Act}(he:bJ ρ D N e1 a)(hg:∀d,e2.get d=e1.get d):bJ ρ D N e2 a:=
 ⟨he.size,fun i=>by rw[hg];exact he.get i,fun i=>by rw[hg];exact he.dom i⟩
theorem Rg.sg(R:Rg P H0 D N l bs e h tr e' h'){S:Nat→Bool}{c i:Nat}{x:bE}(Ij:Cut l S c)(kY:∀j,S j=true→∀i,oG bs j i→S i=true)(hx:l[i]?=some x)(hsi:S i=false)
  (hpre:∀j,oG bs i j→S j=true):Cut l (fun j=>S j||decide (j=i)) (cond (bU x.op) (i+1) c)∧(bU x.op=true→Cut l S i):=by
 have hi:bU x.op=true→Cut l S i:=by
  intro he j y hy Pr;constructor
  ·intro hs;by_cases hji:j<i
   ·exact hji
   ·have hne:j≠i:=by rintro rfl;rw[hs] at hsi;simp at hsi
    rcases R.pairs i j x y (by omega) hx hy with hb|hb
    ·have:=kY j hs i hb;rw[this] at hsi;simp at hsi
    ·exact absurd ⟨he,Pr⟩ hb.1
  ·intro hji;rcases R.pairs j i y x hji hy hx with hb|hb
   ·exact hpre j hb
   ·exact absurd ⟨Pr,he⟩ hb.1
 refine⟨?_,hi⟩;cases he:bU x.op with
 |true=>
  intro j y hy Pr;have:=hi he j y hy Pr;by_cases hji:j=i
  ·subst hji;simp
  ·simp[hji,this];omega
 |false=>
  intro j y hy Pr;have hne:j≠i:=by rintro rfl;rw[hx] at hy;cases hy;rw[he] at Pr;simp at Pr
  simp[hne,Ij j y hy Pr]
theorem Rg.slot(R:Rg P H0 D N l bs e h tr e' h'){S:Nat→Bool}{i:Nat}{x:bE}(kY:∀j,S j=true→∀i,oG bs j i→S i=true)(hx:l[i]?=some x)(hsi:S i=false)
  (hpre:∀j,oG bs i j→S j=true){d:Nat}(hd:d∈x.reads):(fF S l tr e).get d=(cM l tr i e).get d:=by
 refine mZ l tr S i d e e rfl R.ot.length ?_;intro j y hy Cn;have hnm:x.names.contains d=true:=by simp[bE.names,hd]
 by_cases hji:j<i
 ·rw[decide_eq_true hji];rcases R.pairs j i y x hji hy hx with hb|hb
  ·exact hpre j hb
  ·have:=hb.2;unfold nC at this;rw[Cn] at this;simp only[hnm] at this;simp at this
 ·rw[decide_eq_false hji];by_cases he:j=i
  ·subst he;exact hsi
  ·rcases R.pairs i j x y (by omega) hx hy with hb|hb
   ·cases hs:S j with
    |false=>rfl
    |true=>have:=kY j hs i hb;rw[this] at hsi;simp at hsi
   ·have:=hb.2;unfold nC at this;rw[Cn] at this;simp only[hnm] at this;simp at this
theorem Rg.late(R:Rg P H0 D N l bs e h tr e' h'){S:Nat→Bool}{i:Nat}{x:bE}(kY:∀j,S j=true→∀i,oG bs j i→S i=true)(hx:l[i]?=some x)(hsi:S i=false)
  {d:Nat}{j:Nat}{y:bE}(hij:i<j)(hy:l[j]?=some y)(Rm:x.dst=some d)(Cn:y.dst=some d):S j=false:=by
 rcases R.pairs i j x y hij hx hy with hb|hb
 ·cases hs:S j with
  |false=>rfl
  |true=>have:=kY j hs i hb;rw[this] at hsi;simp at hsi
 ·have:=hb.2;unfold nC at this;rw[Cn,Rm] at this;simp[bE.names,Cn] at this
end
end Ads
end Go.Proofs.YtnlcabhfkpafmaaGreat
set_option linter.unusedSimpArgs false
set_option linter.unusedVariables false
namespace Go.Proofs.YtnlcabhfkpafmaaGreat
namespace Ads
section
variable {P:Program} {H0:Nat} {D:Dom} {N:Nat} {l:List bE} {bs:List Nat} {e:Env} {h:Heap} {tr:List aN} {e':Env} {h':Heap}
 {qQ:cF} {w0:World} {a0:Act} {S:Nat→Bool} {c:Nat} {ρ:cF} {a:Act} {w:World} {i:Nat} {x:bE} {m:aN}
def cZ(S:Nat→Bool)(i:Nat):Nat→Bool:=fun j=>S j||decide (j=i)
theorem jW(hi:i<l.length)(b:Nat):DS D l tr h' (cZ S i) b↔DS D l tr h' S b∨((aB tr h' i).next≤b∧b<(aB tr h' (i+1)).next):=by
 constructor
 ·rintro(hb|⟨j,hs,hj,h1,h2⟩)
  ·exact .inl (.inl hb)
  ·by_cases hji:j=i
   ·subst hji;exact .inr ⟨h1,h2⟩
   ·simp only[cZ,hji,decide_false,Bool.or_false] at hs;exact .inl (.inr ⟨j,hs,hj,h1,h2⟩)
 ·rintro((hb|⟨j,hs,hj,h1,h2⟩)|hb)
  ·exact .inl hb
  ·exact .inr ⟨j,by simp[cZ,hs],hj,h1,h2⟩
  ·exact .inr ⟨i,by simp[cZ],hi,hb.1,hb.2⟩
theorem G3(hi:i<l.length)(hs:aB tr h' (i+1)=aB tr h' i):DS D l tr h' (cZ S i)=DS D l tr h' S:=by
 funext b
 rw[eq_iff_iff,jW hi,hs];constructor
 ·rintro(hb|hb)
  ·exact hb
  ·omega
 ·exact .inl
theorem Heap.jC{h1 h2:Heap}{b:Nat}(hg:h1.get b=h2.get b):h1.wr b=h2.wr b:=by simp only[Heap.wr,hg]
structure Up(bs:List Nat)(l:List bE)(tr:List aN)(S:Nat→Bool)(i:Nat)(x:bE)(m:aN):Prop where
 hx:l[i]?=some x
 hm:tr[i]?=some m
 hsi:S i=false
 pre:∀j,oG bs i j→S j=true
theorem Up.lt(u:Up bs l tr S i x m):i<l.length:=(List.getElem?_eq_some_iff.1 u.hx).1
theorem J.oZ(j:J P H0 D N l bs e h tr h' qQ w0 a0 S c ρ a w)(u:Up bs l tr S i x m):∀k,cZ S i k=true→∀k',oG bs k k'→cZ S i k'=true:=by
 intro k hk k' hb;simp only[cZ,Bool.or_eq_true,decide_eq_true_eq] at hk⊢;rcases hk with hk|rfl
 ·exact .inl (j.closed k hk k' hb)
 ·exact .inl (u.pre k' hb)
theorem J.wA(R:Rg P H0 D N l bs e h tr e' h')(j:J P H0 D N l bs e h tr h' qQ w0 a0 S c ρ a w)(u:Up bs l tr S i x m){ρ':cF}(gL:∀b,DS D l tr h' S b→ρ' b=ρ b)
  (hv:m.v.aY (DS D l tr h' (cZ S i))):bJ ρ' (DS D l tr h' (cZ S i)) N (fF (cZ S i) l tr e) (a.put x.dst (real ρ' m.v)):=by
 have h1:bJ ρ' (DS D l tr h' (cZ S i)) N (fF S l tr e) a:=j.env.mono gL (fun b hb=>(jW u.lt b).2 (.inl hb));refine(h1.put (tO R.ok u.hx) hv).congr ?_;intro d;exact yj l tr S (cZ S i) i x m e d R.ot.length u.hx u.hm (fun _=>rfl) u.hsi (fun k y hk hy Rm Cn=>R.late j.closed u.hx u.hsi hk hy Rm Cn)
theorem J.slots(R:Rg P H0 D N l bs e h tr e' h')(j:J P H0 D N l bs e h tr h' qQ w0 a0 S c ρ a w)(u:Up bs l tr S i x m){d:Nat}(hd:d∈x.reads):
  (fF S l tr e).get d=(cM l tr i e).get d:=R.slot j.closed u.hx u.hsi u.pre hd
theorem kZ{rs:List bH}{t:Nat}(h:bH.t t∈rs):t∈gQ rs:=by
 induction rs with
 |nil=>simp at h
 |cons r rs ih=>
  rcases List.mem_cons.1 h with rfl|hh
  ·simp[gQ]
  ·cases r<;>simp[gQ,ih hh]
theorem J.vals(R:Rg P H0 D N l bs e h tr e' h')(j:J P H0 D N l bs e h tr h' qQ w0 a0 S c ρ a w)(u:Up bs l tr S i x m):x.args.map (fF S l tr e).ev=x.args.map (cM l tr i e).ev:=by
 refine List.map_congr_left fun r hr=>?_;cases r with
 |c v=>rfl
 |t d=>exact j.slots R u (List.mem_append_right _ (kZ hr))
theorem J.wanted(R:Rg P H0 D N l bs e h tr e' h')(j:J P H0 D N l bs e h tr h' qQ w0 a0 S c ρ a w)(u:Up bs l tr S i x m):cE x (fF S l tr e)=cE x (cM l tr i e):=by
 unfold cE;cases hg:x.guard with
 |none=>rfl
 |some p=>
  obtain⟨d,want⟩:=p;simp only;rw[j.slots R u (by simp[bE.reads,hg])]
theorem J.quiet(R:Rg P H0 D N l bs e h tr e' h')(j:J P H0 D N l bs e h tr h' qQ w0 a0 S c ρ a w)(u:Up bs l tr S i x m)(hst:aB tr h' (i+1)=aB tr h' i)(hmb:dL x m=none)
  (hv:m.v.aY (DS D l tr h' S)):J P H0 D N l bs e h tr h' qQ w0 a0 (cZ S i) (cond (bU x.op) (i+1) c) ρ (a.put x.dst (real ρ m.v)) w:=by
 have hcs:=R.sg j.cut j.closed u.hx u.hsi u.pre;have hds:DS D l tr h' (cZ S i)=DS D l tr h' S:=G3 u.lt hst;have Is:∀b,(cJ l tr h' (cond (bU x.op) (i+1) c)).get b=(cJ l tr h' c).get b:=by
  intro b;cases he:bU x.op with
  |false=>rfl
  |true=>
   rw[R.E4 j.cut (hcs.2 he) b];simp only[cond_true];show(iu (l.drop (i+1)) (tr.drop (i+1)) (aB tr h' (i+1)).m).get b=(iu (l.drop i) (tr.drop i) (aB tr h' i).m).get b;rw[drop_cons u.hx,drop_cons u.hm,hst];simp only[iu,hmb]
 refine⟨hcs.1,j.oZ u,?_,j.ext.congr rfl Is,?_,?_,?_⟩
 ·rw[hds];exact j.inv.congr rfl Is
 ·intro k y n bk hy hn hb hs;rw[Is];refine j.made k y n bk hy hn hb ?_;simp only[cZ,Bool.or_eq_false_iff] at hs;exact hs.1
 ·exact j.wA R u (fun _ _=>rfl) (by rw[hds];exact hv)
 ·rw[←j.defers];cases x.dst<;>rfl
theorem J.yM(j:J P H0 D N l bs e h tr h' qQ w0 a0 S c ρ a w){c':Nat}(hg:∀(k:Nat) (y:bE) (n:aN) (bk:dD),l[k]?=some y→tr[k]?=some n→dL y n=some bk→S k=false→k≠i→
   (cJ l tr h' c).get (aB tr h' k).next=some bk→(cJ l tr h' c').get (aB tr h' k).next=some bk):
  ∀(k:Nat) (y:bE) (n:aN) (bk:dD),l[k]?=some y→tr[k]?=some n→dL y n=some bk→cZ S i k=false→(cJ l tr h' c').get (aB tr h' k).next=some bk:=by
 intro k y n bk hy hn hb hs;simp only[cZ,Bool.or_eq_false_iff,decide_eq_false_iff_not] at hs;exact hg k y n bk hy hn hb hs.1 hs.2 (j.made k y n bk hy hn hb hs.1)
theorem Rg.EC(R:Rg P H0 D N l bs e h tr e' h'){k:Nat}{y:bE}{n:aN}{bk:dD}(hy:l[k]?=some y)(hn:tr[k]?=some n)(hb:dL y n=some bk)(hs:S k=false):
  ¬DS D l tr h' S (aB tr h' k).next:=by
 rintro(hd|⟨q,hq,hql,h1,h2⟩)
 ·have:=R.MY _ hd;have:=R.tY.low k;omega
 ·by_cases hqk:q=k
  ·subst hqk;rw[hs] at hq;simp at hq
  ·by_cases hlt:q<k
   ·have:=R.tY.mono (q+1) k (by omega);omega
   ·have:=R.Bu hy hn hb (i:=q) (by omega);omega
theorem J.alloc(R:Rg P H0 D N l bs e h tr e' h')(j:J P H0 D N l bs e h tr h' qQ w0 a0 S c ρ a w)(u:Up bs l tr S i x m){bk:dD}(hb:dL x m=some bk){obj:Obj}
  (zE:∀ρ' D',(∀b,DS D l tr h' S b→D' b)→(∀b,DS D l tr h' S b→ρ' b=ρ b)→eC P H0 ρ' D' ⟨w.heap.size,0,0⟩ bk (w.alloc obj))
  (hv:m.v.aY (DS D l tr h' (cZ S i))):
  J P H0 D N l bs e h tr h' qQ w0 a0 (cZ S i) c (iz ρ (aB tr h' i).next ⟨w.heap.size,0,0⟩) (a.put x.dst (real (iz ρ (aB tr h' i).next ⟨w.heap.size,0,0⟩) m.v)) (w.alloc obj):=by
 have hcs:=R.sg j.cut j.closed u.hx u.hsi u.pre;obtain⟨⟨o,f,ho,eM,hai,yB⟩,hst,Bn⟩:=R.made u.hx u.hm hb;have hne:bU x.op=false:=by rw[ho];rfl
 rw[hne] at hcs;have hnot:=R.EC u.hx u.hm hb u.hsi;have cP:=j.made i x m bk u.hx u.hm hb u.hsi;generalize hid:(aB tr h' i).next=id at*
 have jS:(aB tr h' (i+1)).next=id+1:=by rw[hst];simp[hid]
 have hds:∀b,DS D l tr h' (cZ S i) b↔DS D l tr h' S b∨b=id:=by
  intro b;rw[jW u.lt,jS,hid];constructor
  ·rintro(hb|hb)
   ·exact .inl hb
   ·exact .inr (by omega)
  ·rintro(hb|rfl)
   ·exact .inl hb
   ·exact .inr (by omega)
 have gL:∀b,DS D l tr h' S b→iz ρ id ⟨w.heap.size,0,0⟩ b=ρ b:=fun b hb=>jR _ _ (by rintro rfl;exact hnot hb);have hold:∀r,r<w.heap.size→(w.alloc obj).heap[r]?=w.heap[r]?:=by
  intro r hr;show(w.heap.push obj)[r]?=_;rw[Array.getElem?_push,if_neg (by omega)]
 have hsz:(w.alloc obj).heap.size=w.heap.size+1:=by show(w.heap.push obj).size=_;simp
 have T6:id<h'.next:=by have:=R.le_last (i+1);omega
 have Y1:h.next≤id:=by have:=R.tY.low i;omega
 refine⟨hcs.1,j.oZ u,?_,?_,j.yM (fun _ _ _ _ _ _ _ _ _ hg=>hg),j.wA R u gL hv,?_⟩
 ·refine⟨?_,j.inv.top,by rw[hsz];have:=j.inv.low;omega,?_,?_⟩
  ·intro b hb;rcases(hds b).1 hb with hb|rfl
   ·exact j.inv.lt b hb
   ·exact T6
  ·intro b y hb hy;rcases(hds b).1 hb with hb|rfl
   ·have:=j.inv.bK b y hb hy;rw[gL b hb];exact bQ this (fun b hb=>(hds b).2 (.inl hb)) gL (hold _ (gF this))
   ·rw[cP] at hy;cases hy
    rw[bP];exact zE _ _ (fun b hb=>(hds b).2 (.inl hb)) gL
  ·intro b b' hb hb' Bc hw hg;rcases(hds b).1 hb with hb|rfl
   ·rw[gL b hb];rcases(hds b').1 hb' with hb'|rfl
    ·rw[gL b' hb'];exact j.inv.apart b b' hb hb' Bc hw hg
    ·rw[bP];have:=j.inv.UW b hb hw;simp only;omega
   ·rcases(hds b').1 hb' with hb'|rfl
    ·rw[gL b' hb',bP];have:=j.inv.NH hb' hg;simp only;omega
    ·exact absurd rfl Bc
 ·have x0:=j.ext;refine⟨x0.next,?_,by rw[hsz];have:=x0.size;omega,?_,x0.iD,x0.old,?_,x0.tape,x0.os,x0.output⟩
  ·intro b hb;rw[gL b (.inl hb)];exact x0.bB b hb
  ·intro r hr hf;rw[hold r (by have:=x0.size;omega)];exact x0.frame r hr hf
  ·intro b q8 kO;by_cases yz:b=id
   ·subst yz;rw[bP];exact .inl x0.size
   ·rw[jR _ _ yz];exact x0.fresh b q8 kO
 ·rw[←j.defers];cases x.dst<;>rfl
end
end Ads
end Go.Proofs.YtnlcabhfkpafmaaGreat
set_option linter.unusedSimpArgs false
set_option linter.unusedVariables false
namespace Go.Proofs.YtnlcabhfkpafmaaGreat
namespace Ads
section
variable {P:Program} {H0:Nat} {D:Dom} {N:Nat} {l:List bE} {bs:List Nat} {e:Env} {h:Heap} {tr:List aN} {e':Env} {h':Heap}
 {qQ:cF} {w0:World} {a0:Act} {S:Nat→Bool} {c:Nat} {ρ:cF} {a:Act} {w:World} {i:Nat} {x:bE} {m:aN} {ro:Option Nat} {n:Nat}
def only(e:Env):List Nat→Env
 |[]=>.nil
 |d::ds=>Tr.set (only e ds) d (e.get d)
theorem o6(e:Env)(d:Nat):∀ds:List Nat,(only e ds).get d=if d∈ds then e.get d else .undef
 |[]=>by simp[only,Env.get,Tr.get]
 |x::ds=>by
  show((Tr.set (only e ds) x (e.get x)).get d).getD .undef=_;rw[Tr.bT];by_cases hx:d=x
  ·subst hx;simp
  ·rw[if_neg hx];have:=o6 e d ds;unfold Env.get at this;simp only[List.mem_cons,hx,false_or];exact this
def xU(ρ:cF)(N:Nat)(e:Env)(a:Act):Act:={a with tmps:=Array.ofFn (n:=N) fun i=>real ρ (e.get i)}
theorem Fh{D:Dom}(hh:∀i,N≤i→real ρ (e.get i)=Go.undef)(hd:∀i,(e.get i).aY D):bJ ρ D N e (xU ρ N e a) where
 size:=by simp[xU]
 get:=fun i=>by
  by_cases hi:i<N
  ·simp[xU,Array.getD_eq_getD_getElem?,hi]
  ·rw[hh i (by omega)];simp[xU,Array.getD_eq_getD_getElem?,hi]
 dom:=hd
theorem xu{op:Op}{iop:fH}{rs:List bH}(hc:aD P op=some (iop,rs))(he:bU iop=true):
  (∀cs b,op≠.select cs b)∧∀y∈op.operands,∃r∈rs,dg y=some r:=by
 have key:∀(xs:List Operand) (rs:List bH),cm xs=some rs→∀y∈xs,∃r∈rs,dg y=some r:=by
  intro xs;induction xs with
  |nil=>intro rs h y hy;simp at hy
  |cons z xs ih=>
   intro rs h y hy;obtain⟨r,rs',rfl,h1,h2⟩:=dh h;rcases List.mem_cons.1 hy with rfl|hy
   ·exact⟨r,by simp,h1⟩
   ·obtain⟨r',hr',h3⟩:=ih rs' h2 y hy;exact⟨r',by simp[hr'],h3⟩
 cases op
 case store t a y=>
  simp only[aD,Option.bind_eq_some_iff] at hc;obtain⟨k,_,hc⟩:=hc;simp only[one,Option.map_eq_some_iff,Prod.mk.injEq] at hc;obtain⟨rs',hr,_,rfl⟩:=hc;exact⟨by simp,fun y hy=>key _ _ hr y (by simpa[Op.operands] using hy)⟩
 case panic y=>
  simp only[aD,one,Option.map_eq_some_iff,Prod.mk.injEq] at hc;obtain⟨rs',hr,_,rfl⟩:=hc;exact⟨by simp,fun y hy=>key _ _ hr y (by simpa[Op.operands] using hy)⟩
 case call k=>
  refine⟨by simp,fun y hy=>?_⟩;simp only[aD] at hc;split at hc
  ·rename_i f hf;simp only[Option.map_eq_some_iff,Prod.mk.injEq] at hc;obtain⟨rs',hr,_,rfl⟩:=hc;exact key _ _ hr y (by simpa[Op.operands,Call.operands,hf] using hy)
  ·rename_i f nm hf;simp only[Option.map_eq_some_iff,Prod.mk.injEq] at hc;obtain⟨rs',hr,_,rfl⟩:=hc;exact key _ _ hr y (by simpa[Op.operands,Call.operands,hf] using hy)
  ·rename_i b hf;have Zi:(Op.call k).operands=k.args:=by simp[Op.operands,Call.operands,hf]
   rw[Zi] at hy;have hy':y∈k.args.toList:=by simpa using hy
   split at hc
   ·exfalso;repeat' (first
     |(obtain⟨h2,_⟩:=aU hc;subst h2;simp[bU] at he;done)
     |(simp at hc;done)
     |(split at hc))
   ·exfalso;obtain⟨h2,_⟩:=aU hc;subst h2;simp[bU] at he
   ·exfalso;obtain⟨h2,_⟩:=aU hc;subst h2;simp[bU] at he
   ·rename_i s z t u ts hargs eJ;rw[hargs] at hy';split at hc
    ·split at hc
     ·simp at hc
     ·split at hc
      ·split at hc
       ·simp at hc
       ·exact key _ _ (aU hc).2 y hy'
      ·simp at hc
    ·simp at hc
   ·rename_i s z t ts hargs eJ;rw[hargs] at hy';split at hc
    ·simp only[Option.bind_eq_some_iff] at hc;obtain⟨size,hsz,hc⟩:=hc;exact key _ _ (aU hc).2 y hy'
    ·simp at hc
   ·rename_i z t hargs eJ;rw[hargs] at hy';split at hc
    ·simp only[Option.bind_eq_some_iff] at hc;obtain⟨u,_,hc⟩:=hc;exact key _ _ (aU hc).2 y hy'
    ·exfalso;obtain⟨h2,_⟩:=aU hc;subst h2;simp[bU] at he
    ·simp at hc
   ·rename_i z z2 t ts hargs eJ;rw[hargs] at hy';split at hc
    ·split at hc
     ·exact key _ _ (aU hc).2 y hy'
     ·simp at hc
    ·simp at hc
   ·simp at hc
 case range t x=>
  simp only[aD] at hc;split at hc
  ·exact⟨by simp,fun y hy=>key _ _ (aU hc).2 y (by simpa[Op.operands] using hy)⟩
  ·simp at hc
 case next it s=>
  cases s with
  |true=>simp[aD] at hc
  |false=>
   simp only[aD] at hc;exact⟨by simp,fun y hy=>key _ _ (aU hc).2 y (by simpa[Op.operands] using hy)⟩
 case mapUpdate t m k x=>
  simp only[aD] at hc;split at hc
  ·split at hc
   ·exact⟨by simp,fun y hy=>key _ _ (aU hc).2 y (by simpa[Op.operands] using hy)⟩
   ·exfalso;obtain⟨h2,_⟩:=aU hc;subst h2;simp[bU] at he
   ·exfalso;obtain⟨h2,_⟩:=aU hc;subst h2;simp[bU] at he
   ·simp at hc
  ·simp at hc
 case insert t m k x=>
  simp only[aD] at hc;split at hc
  ·split at hc
   ·exact⟨by simp,fun y hy=>key _ _ (aU hc).2 y (by simpa[Op.operands] using hy)⟩
   ·exfalso;obtain⟨h2,_⟩:=aU hc;subst h2;simp[bU] at he
   ·exfalso;obtain⟨h2,_⟩:=aU hc;subst h2;simp[bU] at he
   ·simp at hc
  ·simp at hc
 case unOp u t y=>
  exfalso;cases u<;>simp only[aD] at hc<;>first
   |(obtain⟨h2,_⟩:=aU hc;subst h2;simp[bU] at he;done)
   |(simp at hc;done)
 case makeMap t r=>
  exfalso;cases r with
  |none=>simp only[aD] at hc;obtain⟨h2,_⟩:=aU hc;subst h2;simp[bU] at he
  |some r=>simp[aD] at hc
 all_goals (exfalso;simp only[aD] at hc)
 all_goals repeat' (first
  |(simp only[Option.bind_eq_some_iff] at hc;obtain⟨_,_,hc⟩:=hc)
  |(simp only[Option.map_eq_some_iff] at hc;obtain⟨_,_,hc⟩:=hc;simp only[Prod.mk.injEq] at hc;obtain⟨hc,_⟩:=hc;subst hc;simp[bU] at he;done)
  |(obtain⟨h2,_⟩:=aU hc;subst h2;simp[bU] at he;done)
  |(simp at hc;done)
  |(split at hc))
end
end Ads
end Go.Proofs.YtnlcabhfkpafmaaGreat
set_option linter.unusedSimpArgs false
set_option linter.unusedVariables false
namespace Go.Proofs.YtnlcabhfkpafmaaGreat
namespace Ads
section
variable {P:Program} {H0:Nat} {D:Dom} {N:Nat} {l:List bE} {bs:List Nat} {e:Env} {h:Heap} {tr:List aN} {e':Env} {h':Heap}
 {qQ:cF} {w0:World} {a0:Act} {S:Nat→Bool} {c:Nat} {ρ:cF} {a:Act} {w:World} {i:Nat} {x:bE} {m:aN} {ro:Option Nat} {n:Nat}
theorem Gn{d:Option Nat}{a a2:Act}{u v:Value}(hd:vE N d=true)(h2:a2.tmps.size=N)(hp:a2.put d u=a2.put d v):a.put d u=a.put d v:=by
 cases d with
 |none=>rfl
 |some d=>
  have hlt:d<N:=Nat.le_of_ble_eq_true (show Nat.ble (d+1) N=true from hd);have:(a2.tmps.setIfInBounds d u)[d]?=(a2.tmps.setIfInBounds d v)[d]?:=congrArg (fun z:Act=>z.tmps[d]?) hp;simp[h2,hlt] at this;rw[this]
theorem put_defers{d:Option Nat}{a:Act}{v:Value}:(a.put d v).defers=a.defers:=by cases d<;>rfl
theorem DI{o:Oper}{a a2:Act}{w:World}{next:Act→World→Prop}{Q:Exit→Act→World→Prop}(hd:vE N o.dst=true)(h2:a2.tmps.size=N)
  (hs:Oper.semAt (FW ro).round a.eval o=Oper.semAt (FW ro).round a2.eval o)
  (h:o.wpIn (FW ro) n P a2 w (fun z w'=>∃v,z=a2.put o.dst v∧next (a.put o.dst v) w') (fun _ _ _=>False)):o.wpIn (FW ro) n P a w next Q:=by
 refine⟨fun _ _=>trivial,?_⟩;rw[hs];have h:=h.2;generalize(Oper.semAt (FW ro).round a2.eval o).run P w=r at h;have key:∀(v:Value) (w':World),(∃v',a2.put o.dst v=a2.put o.dst v'∧next (a.put o.dst v') w')→next (a.put o.dst v) w':=by
  rintro v w' ⟨v',h1,h3⟩;rw[Gn (a:=a) hd h2 h1];exact h3
 cases r with
 |ok x w'=>
  cases x<;>simp only[Oper.uponIn] at h⊢
  case value v=>exact key _ _ h
  case skip=>exact key _ _ h
  case defer d=>
   exfalso;obtain⟨v,h1,_⟩:=h;have:=congrArg Act.defers h1;rw[put_defers,put_defers] at this;have:=congrArg List.length this;simp at this
  case enter f args=>
   exact⟨h.1,CallsIn.mono h.2 (fun e w'' he=>by
    cases e with
    |returned v=>exact key _ _ he
    |panicked c=>exact he.elim
    |outgrown=>obtain⟨_,_,q⟩:=he;exact q.elim)⟩
  case row row args=>exact⟨h.1,RowsIn.mono h.2 (fun _ _ he=>key _ _ he)⟩
  case round l f tmps as bd=>
   exact⟨h.1,RoundIn.mono h.2 (fun e w'' he=>by
    cases e with
    |returned v=>exact key _ _ he
    |panicked c=>exact he.elim
    |outgrown=>obtain⟨_,_,q⟩:=he;exact q.elim)⟩
  all_goals (first|exact h.elim|skip)
 |halt x w'=>
  cases x<;>simp only[Oper.uponIn] at h
def Ml(D:Dom)(l:List bE)(h:Heap)(tr:List aN)(h':Heap)(S:Nat→Bool)(i:Nat):Dom:=fun b=>
 DS D l tr h' S b∧grow D h.next (aB tr h' i).next b
theorem Qn(R:Rg P H0 D N l bs e h tr e' h'){b:Nat}(hb:DS D l tr h' S b)(hlt:b<(aB tr h' i).next):Ml D l h tr h' S i b:=by
 refine⟨hb,?_⟩;rcases hb with hb|⟨q,_,_,h1,_⟩
 ·exact .inl hb
 ·exact .inr ⟨Nat.le_trans (R.tY.low q) h1,hlt⟩
theorem oQ(R:Rg P H0 D N l bs e h tr e' h'){b:Nat}(hb:Ml D l h tr h' S i b):b<(aB tr h' i).next:=by
 rcases hb.2 with hd|hd
 ·exact Nat.lt_of_lt_of_le (R.MY b hd) (R.tY.low i)
 ·exact hd.2
theorem J.before(R:Rg P H0 D N l bs e h tr e' h')(j:J P H0 D N l bs e h tr h' qQ w0 a0 S c ρ a w)(u:Up bs l tr S i x m)(he:bU x.op=true):
  (∀b,b<(aB tr h' i).next→(aB tr h' i).get b=(cJ l tr h' c).get b)∧Inv P H0 ρ (Ml D l h tr h' S i) (aB tr h' i) w:=by
 have hcs:=R.sg j.cut j.closed u.hx u.hsi u.pre;have hg:∀b,b<(aB tr h' i).next→(aB tr h' i).get b=(cJ l tr h' c).get b:=by
  intro b hb;rw[R.E4 j.cut (hcs.2 he) b,R.E5 hb]
 refine⟨hg,fun b hb=>oQ R hb,fun b hb=>R.tY.top i b hb,j.inv.low,?_,?_⟩
 ·intro b y hb hy;have hlt:=oQ R hb;have h1:=j.inv.bK b y hb.1 (by rw[←hg b hlt];exact hy);obtain⟨KA,wv,av,iv,_⟩:=R.tY.run i;exact xl h1 (iv.bK b y hb.2 hy)
 ·intro b b' hb hb' hne hw hx;exact j.inv.apart b b' hb.1 hb'.1 hne (by rw[←Heap.jC (hg b (oQ R hb))];exact hw) (by rw[←hg b' (oQ R hb')];exact hx)
theorem J.effect(R:Rg P H0 D N l bs e h tr e' h')(j:J P H0 D N l bs e h tr h' qQ w0 a0 S c ρ a w)(u:Up bs l tr S i x m)(he:bU x.op=true)
  {o:Oper}(hc:aD P o.op=some (x.op,x.args))(lO:x.dst=o.dst)(yB:m.vals=x.args.map (cM l tr i e).ev)
  (hop:uG P H0 x.op m.vals (aB tr h' i) m.v (aB tr h' (i+1))){next:Act→World→Prop}{Q:Exit→Act→World→Prop}
  (hk:∀ρ' w',J P H0 D N l bs e h tr h' qQ w0 a0 (cZ S i) (i+1) ρ' (a.put x.dst (real ρ' m.v)) w'→next (a.put x.dst (real ρ' m.v)) w'):o.wpIn (FW ro) n P a w next Q:=by
 have hcs:=R.sg j.cut j.closed u.hx u.hsi u.pre;rw[he] at hcs;simp only[cond_true] at hcs;have Ij:=hcs.2 trivial;obtain⟨hg,hinv⟩:=j.before R u he;have hmono:=R.tY.mono i (i+1) (by omega);obtain⟨KA,wv,av,iv,ev⟩:=R.tY.run i;have Pw:∀d,d∈gQ x.args→(fF S l tr e).get d=(cM l tr i e).get d:=fun d hd=>j.slots R u (List.mem_append_right _ hd);have YW:bJ ρ (Ml D l h tr h' S i) N (only (fF S l tr e) (gQ x.args)) (xU ρ N (only (fF S l tr e) (gQ x.args)) a):=by
  refine Fh (fun d hd=>?_) (fun d=>?_)
  ·rw[o6];split
   ·rw[←j.env.get d];simp[Array.getD_eq_getD_getElem?,j.env.size,Nat.not_lt.2 hd]
   ·exact fO ρ
  ·rw[o6];split
   ·rename_i hmem;refine jM (j.env.dom d) ?_;rw[Pw d hmem];exact ev.dom d
   ·simp[AV.undef,AV.aY,bn]
 have m7:x.args.map (only (fF S l tr e) (gQ x.args)).ev=m.vals:=by
  rw[yB];refine List.map_congr_left fun r hr=>?_;cases r with
  |c v=>rfl
  |t d=>
   show(only _ _).get d=(cM l tr i e).get d;rw[o6,if_pos (kZ hr)];exact Pw d (kZ hr)
 obtain⟨hsel,FT⟩:=xu hc he;have hex:execOp a.eval o=execOp (xU ρ N (only (fF S l tr e) (gQ x.args)) a).eval o:=by
  refine execOp_congr o hsel ?_;intro y hy;obtain⟨r,hr,hry⟩:=FT y hy;rw[(aG j.env hry).1,(aG YW hry).1];cases r with
  |c v=>rfl
  |t d=>
   show real ρ ((fF S l tr e).get d)=real ρ ((only _ _).get d);rw[o6,if_pos (kZ hr)]
 refine DI (N:=N) (by rw[←lO];exact tO R.ok u.hx) YW.size (by rw[wU hc,wU hc];exact hex) ?_;refine hop.sem o x.args hc ρ _ w _ N _ ro n hinv YW m7 _ _ ?_;intro pO w1 i1 x1 C6;refine⟨real pO m.v,rfl,?_⟩
 let iW:cF:=fun b=>if(aB tr h' i).next≤b∧b<(aB tr h' (i+1)).next then pO b else ρ b
 have Ph:∀b,(aB tr h' i).next≤b→b<(aB tr h' (i+1)).next→iW b=pO b:=fun b h1 h2=>if_pos ⟨h1,h2⟩
 have Pj:∀b,¬((aB tr h' i).next≤b∧b<(aB tr h' (i+1)).next)→iW b=ρ b:=fun b h1=>if_neg h1;have H9:∀b,DS D l tr h' S b→¬((aB tr h' i).next≤b∧b<(aB tr h' (i+1)).next):=by
  rintro b (hb|⟨q,hq,hql,h1,h2⟩) ⟨h3,h4⟩
  ·have:=R.MY b hb;have:=R.tY.low i;omega
  ·by_cases hqi:q=i
   ·subst hqi;rw[u.hsi] at hq;simp at hq
   ·by_cases hlt:q<i
    ·have:=R.tY.mono (q+1) i (by omega);omega
    ·have:=R.tY.mono (i+1) q (by omega);omega
 have gL:∀b,DS D l tr h' S b→iW b=ρ b:=fun b hb=>Pj b (H9 b hb);have uM:∀b,grow (Ml D l h tr h' S i) (aB tr h' i).next (aB tr h' (i+1)).next b→iW b=pO b:=by
  rintro b (hb|hb)
  ·rw[gL b hb.1,x1.bB b hb]
  ·exact Ph b hb.1 hb.2
 have hval:real iW m.v=real pO m.v:=cu uM _ C6;have hsub:∀b,grow (Ml D l h tr h' S i) (aB tr h' i).next (aB tr h' (i+1)).next b→DS D l tr h' (cZ S i) b:=by
  rintro b (hb|hb)
  ·exact(jW u.lt b).2 (.inl hb.1)
  ·exact(jW u.lt b).2 (.inr hb)
 have hsplit:∀b,DS D l tr h' (cZ S i) b→(grow (Ml D l h tr h' S i) (aB tr h' i).next (aB tr h' (i+1)).next b∧b<(aB tr h' (i+1)).next)∨(DS D l tr h' S b∧(aB tr h' (i+1)).next≤b):=by
  intro b hb;rcases(jW u.lt b).1 hb with hb|hb
  ·have:=H9 b hb;by_cases hlt:b<(aB tr h' i).next
   ·exact .inl ⟨.inl (Qn R hb hlt),by omega⟩
   ·exact .inr ⟨hb,by omega⟩
  ·exact .inl ⟨.inr hb,hb.2⟩
 have Is:∀b,b<(aB tr h' (i+1)).next→(cJ l tr h' (i+1)).get b=(aB tr h' (i+1)).get b:=fun b hb=>R.E5 hb
 have Bj:∀b,(aB tr h' (i+1)).next≤b→(cJ l tr h' (i+1)).get b=(cJ l tr h' c).get b:=by
  intro b hb;rw[R.E4 j.cut Ij b,R.US u.hx he hb]
 have Zu:∀b,b<(aB tr h' (i+1)).next→(cJ l tr h' (i+1)).wr b=(aB tr h' (i+1)).wr b:=fun b hb=>Heap.jC (Is b hb)
 have hkeep:∀b,DS D l tr h' S b→(aB tr h' (i+1)).next≤b→(cJ l tr h' c).get b≠none→∀b0,Ml D l h tr h' S i b0→(aB tr h' i).wr b0=true→(ρ b0).bK≠(ρ b).bK:=by
  intro b hb hlt hnn b0 hb0 hw0;have:=oQ R hb0;exact j.inv.apart b0 b hb0.1 hb (by omega) (by rw[←Heap.jC (hg b0 this)];exact hw0) hnn
 have kY:=j.oZ u;have Y5:J P H0 D N l bs e h tr h' qQ w0 a0 (cZ S i) (i+1) iW (a.put x.dst (real iW m.v)) w1:=by
  refine⟨hcs.1,kY,?_,?_,j.yM ?_,j.wA R u gL (cK hsub _ C6),by rw[←j.defers];exact put_defers⟩
  ·refine⟨?_,fun b hb=>R.PF hb,i1.low,?_,?_⟩
   ·intro b hb;rcases hsplit b hb with hb|hb
    ·exact Nat.lt_of_lt_of_le hb.2 (R.le_last _)
    ·exact j.inv.lt b hb.1
   ·intro b y hb hy;rcases hsplit b hb with hb|hb
    ·rw[Is b hb.2] at hy;rw[uM b hb.1];exact bQ (i1.bK b y hb.1 hy) hsub uM rfl
    ·rw[Bj b hb.2] at hy;rw[gL b hb.1];have CV:=j.inv.bK b y hb.1 hy;refine bQ CV (fun b hb=>(jW u.lt b).2 (.inl hb)) gL ?_;exact x1.frame _ (gF CV) (hkeep b hb.1 hb.2 (by rw[hy];simp))
   ·intro b b' hb hb' hne hw hx;rcases hsplit b hb with hb|hb<;>rcases hsplit b' hb' with hb'|hb'
    ·rw[uM b hb.1,uM b' hb'.1];exact i1.apart b b' hb.1 hb'.1 hne (by rw[←Zu b hb.2];exact hw) (by rw[←Is b' hb'.2];exact hx)
    ·rw[uM b hb.1,gL b' hb'.1];rw[Bj b' hb'.2] at hx;rcases hb.1 with hd|hd
     ·rw[x1.bB b hd];have hwb:(aB tr h' (i+1)).wr b=true:=by rw[←Zu b hb.2];exact hw
      have:=(x1.old b (oQ R hd) (Heap.eT hwb)).2;exact hkeep b' hb'.1 hb'.2 hx b hd (this hwb)
     ·rcases x1.fresh b hd.1 hd.2 with hf|⟨b0,k1,k2,k3⟩
      ·have:=j.inv.NH hb'.1 hx;omega
      ·rw[←k3];exact hkeep b' hb'.1 hb'.2 hx b0 k1 k2
    ·rw[gL b hb.1,uM b' hb'.1];rw[Heap.jC (Bj b hb.2)] at hw;rw[Is b' hb'.2] at hx;rcases hb'.1 with hd|hd
     ·rw[x1.bB b' hd];have hlt:=oQ R hd;have:=(x1.old b' hlt hx).1;rw[hg b' hlt] at this;exact j.inv.apart b b' hb.1 hd.1 hne hw this
     ·rcases x1.fresh b' hd.1 hd.2 with hf|⟨b0,k1,k2,k3⟩
      ·have:=j.inv.UW b hb.1 hw;omega
      ·rw[←k3];exact(hkeep b hb.1 hb.2 (Heap.eT hw) b0 k1 k2).symm
    ·rw[gL b hb.1,gL b' hb'.1];rw[Heap.jC (Bj b hb.2)] at hw;rw[Bj b' hb'.2] at hx;exact j.inv.apart b b' hb.1 hb'.1 hne hw hx
  ·have x0:=j.ext;have ri:=R.tY.low i;have H8:∀b,DS D l tr h' S b→b<h.next→D b:=by
    rintro b (hb|⟨q,_,_,h1,_⟩) hlt
    ·exact hb
    ·have:=R.tY.low q;omega
   have place:∀b,DS D l tr h' S b→(cJ l tr h' c).wr b=true→w0.heap.size≤(ρ b).bK∨∃b0,D b0∧h.wr b0=true∧(qQ b0).bK=(ρ b).bK:=by
    intro b hb hw;by_cases hlt:b<h.next
    ·have hd:=H8 b hb hlt;have:=(x0.old b hlt (Heap.eT hw)).2;exact .inr ⟨b,hd,this hw,by rw[x0.bB b hd]⟩
    ·exact x0.fresh b (by omega) (j.inv.lt b hb)
   have place':∀b,Ml D l h tr h' S i b→(aB tr h' i).wr b=true→w0.heap.size≤(ρ b).bK∨∃b0,D b0∧h.wr b0=true∧(qQ b0).bK=(ρ b).bK:=
    fun b hb hw=>place b hb.1 (by rw[←Heap.jC (hg b (oQ R hb))];exact hw)
   refine⟨x0.next,?_,Nat.le_trans x0.size x1.size,?_,?_,?_,?_,x1.tape.trans x0.tape,x1.os.trans x0.os,x1.output.trans x0.output⟩
   ·intro b hb;rw[gL b (.inl hb)];exact x0.bB b hb
   ·intro r hr hf;rw[x1.frame r (Nat.lt_of_lt_of_le hr x0.size),x0.frame r hr hf];intro b hb hw;rcases place' b hb hw with hp|⟨b0,k1,k2,k3⟩
    ·omega
    ·rw[←k3];exact hf b0 k1 k2
   ·intro b hb hd;have hlt:b<(aB tr h' i).next:=by omega
    rw[Is b (by omega),x1.iD b hlt (fun hin=>hd (H8 b hin.1 hb)),hg b hlt];exact x0.iD b hb hd
   ·intro b hb hn;have hlt:b<(aB tr h' i).next:=by omega
    rw[Is b (by omega)] at hn;have k1:=x1.old b hlt hn;have k2:=x0.old b hb (by rw[←hg b hlt];exact k1.1);refine⟨k2.1,?_⟩;intro hw;rw[Zu b (by omega)] at hw;exact k2.2 (by rw[←Heap.jC (hg b hlt)];exact k1.2 hw)
   ·intro b q8 kO;by_cases hnew:(aB tr h' i).next≤b∧b<(aB tr h' (i+1)).next
    ·rw[Ph b hnew.1 hnew.2];rcases x1.fresh b hnew.1 hnew.2 with hf|⟨b0,k1,k2,k3⟩
     ·exact .inl (Nat.le_trans x0.size hf)
     ·rw[←k3];exact place' b0 k1 k2
    ·rw[Pj b hnew];exact x0.fresh b q8 kO
  ·intro k y q bk hy hq hb hs hki T2;by_cases hlt:(aB tr h' k).next<(aB tr h' i).next
   ·rw[Is _ (by omega),x1.iD _ hlt (fun hin=>R.EC hy hq hb hs hin.1),hg _ hlt];exact T2
   ·have xC:=R.Bu hy hq hb (i:=k+1) (by omega);have:(aB tr h' (i+1)).next≤(aB tr h' k).next:=by
     rcases Nat.lt_or_ge k i with hlt'|hge
     ·have:=R.Bu hy hq hb hlt';omega
     ·exact R.tY.mono (i+1) k (by omega)
    rw[Bj _ this];exact T2
 have:=hk iW w1 Y5;rw[hval] at this;rw[←lO];exact this
end
end Ads
end Go.Proofs.YtnlcabhfkpafmaaGreat
