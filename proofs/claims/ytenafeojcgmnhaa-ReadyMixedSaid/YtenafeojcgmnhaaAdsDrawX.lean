/-
  Regions that draw their order: what a trace in the text's order says of places and stores.
  Regions that draw their order: a run in the text's order exists, and what it shows of numbers.
  Regions that draw their order: the heap that all orders work on; what holds when some operations are done.
  Regions that draw their order: one operation more is done; those that change no heap.
  Regions that draw their order: an effect is done.
  Regions that draw their order: an effect is done, in any order.
-/
import Derived.Test.YtenafeojcgmnhaaAdsSem
set_option linter.unusedSimpArgs false
set_option linter.unusedVariables false
namespace Go.Proofs.Ytenafeojcgmnhaa
namespace Ads
def ay(tr:List aK)(h':Heap)(i:Nat):Heap:=dP (tr.drop i) h'
def cN:List bq→List aK→Nat→Env→Env
 |x::l,m::tr,i+1,e=>cN l tr i (e.put x.dst m.v)
 |_,_,_,e=>e
def fP:(Nat→Bool)→List bq→List aK→Env→Env
 |S,x::l,m::tr,e=>fP (fun j=>S (j+1)) l tr (cond (S 0) (e.put x.dst m.v) e)
 |_,_,_,e=>e
section
variable {P:Program} {H0:Nat}
theorem OT.length:∀{l:List bq} {e:Env} {h:Heap} {tr:List aK} {e':Env} {h':Heap},OT P H0 l e h tr e' h'→tr.length=l.length
 |[],_,_,tr,_,_,ho=>by cases tr<;>simp_all[OT]
 |x::l,_,_,tr,_,_,ho=>by
  cases tr with
  |nil=>simp[OT] at ho
  |cons m tr=>
   simp only[OT] at ho;rcases ho.2.2 with⟨_,_,_,hr⟩|⟨_,_,h1,_,hr⟩<;>simp[hr.length]
theorem OT.zero{l:List bq}{e:Env}{h:Heap}{tr:List aK}{e':Env}{h':Heap}(ho:OT P H0 l e h tr e' h'):ay tr h' 0=h:=by
 cases l with
 |nil=>cases tr<;>simp_all[OT,ay,dP]
 |cons x l=>cases tr with
  |nil=>simp[OT] at ho
  |cons m tr=>simp only[OT] at ho;simp[ay,dP,ho.1]
theorem OT.at:∀{l:List bq} {e:Env} {h:Heap} {tr:List aK} {e':Env} {h':Heap},OT P H0 l e h tr e' h'→∀{i:Nat} {x:bq},l[i]?=some x→
  ∃m,tr[i]?=some m∧m.h=ay tr h' i∧m.vals=x.args.map (cN l tr i e).ev∧
   ((m.on=false∧bP x (cN l tr i e)=false∧m.v=.undef∧ay tr h' (i+1)=ay tr h' i)∨
    (m.on=true∧bP x (cN l tr i e)=true∧um P H0 x.op m.vals (ay tr h' i) m.v (ay tr h' (i+1))))
 |[],_,_,_,_,_,_,i,x,hx=>by simp at hx
 |y::l,e,h,tr,e',h',ho,i,x,hx=>by
  cases tr with
  |nil=>simp[OT] at ho
  |cons m tr=>
   simp only[OT] at ho;cases i with
   |zero=>
    simp at hx;subst hx;refine⟨m,rfl,rfl,by simpa[cN] using ho.2.1,?_⟩;rcases ho.2.2 with⟨h1,h2,h3,hr⟩|⟨h1,h2,h4,h3,hr⟩
    ·refine .inl ⟨h1,by simpa[cN] using h2,h3,?_⟩;show ay tr h' 0=m.h;rw[hr.zero,ho.1]
    ·refine .inr ⟨h1,by simpa[cN] using h2,?_⟩;show um P H0 y.op m.vals m.h m.v (ay tr h' 0);rw[hr.zero,ho.1];exact h3
   |succ i=>
    simp at hx;rcases ho.2.2 with⟨h1,h2,h3,hr⟩|⟨h1,h2,h4,h3,hr⟩
    ·rw[←h3] at hr;obtain⟨m',g1,g2,g3,g4⟩:=hr.at hx;exact⟨m',by simpa using g1,by simpa[ay] using g2,by simpa[cN] using g3,by simpa[cN,ay] using g4⟩
    ·obtain⟨m',g1,g2,g3,g4⟩:=hr.at hx;exact⟨m',by simpa using g1,by simpa[ay] using g2,by simpa[cN] using g3,by simpa[cN,ay] using g4⟩
theorem OT.last{l:List bq}{e:Env}{h:Heap}{tr:List aK}{e':Env}{h':Heap}(ho:OT P H0 l e h tr e' h'){i:Nat}(hi:l.length≤i):ay tr h' i=h':=by
 unfold ay;rw[List.drop_eq_nil_of_le (by rw[ho.length];exact hi)];rfl
theorem OT.take:∀{l:List bq} {e:Env} {h:Heap} {tr:List aK} {e':Env} {h':Heap},OT P H0 l e h tr e' h'→∀i:Nat,
  OT P H0 (l.take i) e h (tr.take i) (cN l tr i e) (ay tr h' i)
 |[],e,h,tr,e',h',ho,i=>by
  cases tr with
  |cons _ _=>simp[OT] at ho
  |nil=>simp only[OT] at ho;obtain⟨rfl,rfl⟩:=ho;cases i<;>simp[OT,cN,ay,dP]
 |y::l,e,h,tr,e',h',ho,i=>by
  cases tr with
  |nil=>simp[OT] at ho
  |cons m tr=>
   cases i with
   |zero=>
    have:=ho.zero;simp[OT,cN,this]
   |succ i=>
    simp only[OT] at ho;simp only[List.take_succ_cons,OT,cN];refine⟨ho.1,ho.2.1,?_⟩;rcases ho.2.2 with⟨h1,h2,h3,hr⟩|⟨h1,h2,h4,h3,hr⟩
    ·refine .inl ⟨h1,h2,h3,?_⟩;have:=hr.take i;rw[h3];simpa[ay] using this
    ·refine .inr ⟨h1,h2,h4,h3,?_⟩;have:=hr.take i;simpa[ay] using this
theorem s8:∀{l:List bq} {e:Env} {h:Heap} {tr:List aK} {e':Env} {h':Heap},OT P H0 l e h tr e' h'→cN l tr l.length e=e'
 |[],e,h,tr,e',h',ho=>by cases tr<;>simp_all[OT,cN]
 |y::l,e,h,tr,e',h',ho=>by
  cases tr with
  |nil=>simp[OT] at ho
  |cons m tr=>
   simp only[OT] at ho;simp only[List.length_cons,cN];rcases ho.2.2 with⟨h1,h2,h3,hr⟩|⟨h1,h2,h4,h3,hr⟩
   ·rw[h3];exact s8 hr
   ·exact s8 hr
theorem gF{e:Env}{d:Option Nat}{v:AV}{t:Nat}(h:d≠some t):(e.put d v).get t=e.get t:=by rw[eF,if_neg h]
theorem mQ:∀(l:List bq) (tr:List aK) (S:Nat→Bool) (i:Nat) (d:Nat) (e1 e2:Env),e1.get d=e2.get d→tr.length=l.length→
  (∀j x,l[j]?=some x→x.dst=some d→S j=decide (j<i))→(fP S l tr e1).get d=(cN l tr i e2).get d
 |[],tr,S,i,d,e1,e2,he,hl,hs=>by cases tr<;>simp_all[fP,cN]
 |x::l,[],S,i,d,e1,e2,he,hl,hs=>by simp at hl
 |x::l,m::tr,S,i,d,e1,e2,he,hl,hs=>by
  simp only[fP];cases i with
  |zero=>
   have h0:(cond (S 0) (e1.put x.dst m.v) e1).get d=e2.get d:=by
    by_cases hx:x.dst=some d
    ·have:=hs 0 x rfl hx;simp at this;rw[this];exact he
    ·cases S 0
     ·exact he
     ·simp only[cond_true];rw[gF hx];exact he
   have:=mQ l tr (fun j=>S (j+1)) 0 d _ e2 h0 (by simpa using hl) (fun j y hy hd=>by
    have:=hs (j+1) y (by simpa using hy) hd;simpa using this)
   rw[this];cases l<;>cases tr<;>simp[cN]
  |succ i=>
   simp only[cN];refine mQ l tr (fun j=>S (j+1)) i d _ _ ?_ (by simpa using hl) (fun j y hy hd=>by
    have:=hs (j+1) y (by simpa using hy) hd;simpa using this)
   by_cases hx:x.dst=some d
   ·have:=hs 0 x rfl hx;simp at this;rw[this];simp only[cond_true];rw[eF,eF,if_pos hx,if_pos hx]
   ·rw[gF hx];cases S 0
    ·exact he
    ·simp only[cond_true];rw[gF hx];exact he
theorem tT:∀(l:List bq) (tr:List aK) (S S':Nat→Bool) (d:Nat) (e1 e2:Env),e1.get d=e2.get d→tr.length=l.length→
  (∀j x,l[j]?=some x→x.dst=some d→S j=S' j)→(fP S l tr e1).get d=(fP S' l tr e2).get d
 |[],tr,S,S',d,e1,e2,he,hl,hs=>by cases tr<;>simp_all[fP]
 |x::l,[],S,S',d,e1,e2,he,hl,hs=>by simp at hl
 |x::l,m::tr,S,S',d,e1,e2,he,hl,hs=>by
  simp only[fP];refine tT l tr _ _ d _ _ ?_ (by simpa using hl) (fun j y hy hd=>hs (j+1) y (by simpa using hy) hd);by_cases hx:x.dst=some d
  ·rw[hs 0 x rfl hx];cases S' 0
   ·exact he
   ·simp only[cond_true];rw[eF,eF,if_pos hx,if_pos hx]
  ·cases S 0<;>cases S' 0<;>simp only[cond_true,cond_false,gF hx]<;>exact he
theorem xC:∀(l:List bq) (tr:List aK) (S S':Nat→Bool) (i:Nat) (x:bq) (m:aK) (e:Env) (d:Nat),tr.length=l.length→l[i]?=some x→tr[i]?=some m→
  (∀j,S' j=(S j||decide (j=i)))→S i=false→(∀j y,i<j→l[j]?=some y→x.dst=some d→y.dst=some d→S j=false)→
  (fP S' l tr e).get d=((fP S l tr e).put x.dst m.v).get d
 |[],tr,S,S',i,x,m,e,d,hl,hx,hm,hs,hsi,DJ=>by simp at hx
 |y::l,[],S,S',i,x,m,e,d,hl,hx,hm,hs,hsi,DJ=>by simp at hl
 |y::l,n::tr,S,S',i,x,m,e,d,hl,hx,hm,hs,hsi,DJ=>by
  simp only[fP];cases i with
  |zero=>
   simp at hx hm;subst hx;subst hm;rw[hs 0,hsi];simp only[decide_true,Bool.or_true,cond_true,cond_false];by_cases hd:y.dst=some d
   ·rw[eF,if_pos hd];have:(fP (fun j=>S' (j+1)) l tr (e.put y.dst n.v)).get d=(cN l tr 0 (e.put y.dst n.v)).get d:=by
     refine mQ l tr _ 0 d _ _ rfl (by simpa using hl) (fun j z hz SD=>?_);rw[hs (j+1),DJ (j+1) z (by omega) (by simpa using hz) hd SD];simp
    rw[this];have:cN l tr 0 (e.put y.dst n.v)=e.put y.dst n.v:=by cases l<;>cases tr<;>simp[cN]
    rw[this,eF,if_pos hd]
   ·rw[gF hd];refine tT l tr _ _ d _ _ (gF hd) (by simpa using hl) (fun j z hz SD=>?_);rw[hs (j+1)];simp
  |succ i=>
   simp at hx hm;have h0:S' 0=S 0:=by rw[hs 0];simp
   rw[h0];refine xC l tr _ _ i x m _ d (by simpa using hl) hx hm (fun j=>?_) hsi (fun j z hj hz Oc SD=>DJ (j+1) z (by omega) (by simpa using hz) Oc SD);rw[hs (j+1)];simp
def uAt(l:List bq)(tr:List aK)(h':Heap)(c:Nat):Heap:=cr l tr h' c
theorem qV:∀(l:List bq) (tr:List aK) (t t':Tr cw) (b:Nat),t.get b=t'.get b→(dS l tr t).get b=(dS l tr t').get b
 |[],tr,t,t',b,h=>by cases tr<;>simpa[dS] using h
 |x::l,[],t,t',b,h=>by simpa[dS] using h
 |x::l,m::tr,t,t',b,h=>by
  simp only[dS];split
  ·refine qV l tr _ _ b ?_;rw[Tr.bt,Tr.bt,h]
  ·exact qV l tr _ _ b h
theorem uG:∀(l:List bq) (tr:List aK) (t:Tr cw) (b:Nat),(∀(j:Nat) (x:bq) (m:aK),l[j]?=some x→tr[j]?=some m→dG x m≠none→m.h.next≠b)→
  (dS l tr t).get b=t.get b
 |[],tr,t,b,h=>by cases tr<;>simp[dS]
 |x::l,[],t,b,h=>by simp[dS]
 |x::l,m::tr,t,b,h=>by
  have ht:=fun t=>uG l tr t b (fun j y n hy hn=>h (j+1) y n (by simpa using hy) (by simpa using hn));simp only[dS];split
  ·rename_i bk hb;rw[ht,Tr.bt,if_neg];intro e;exact h 0 x m rfl rfl (by rw[hb];simp) e.symm
  ·exact ht t
end
end Ads
end Go.Proofs.Ytenafeojcgmnhaa
set_option linter.unusedSimpArgs false
set_option linter.unusedVariables false
namespace Go.Proofs.Ytenafeojcgmnhaa
namespace Ads
section
variable {P:Program} {H0:Nat} {ro:Option Nat} {n:Nat}
theorem yo(ro:Option Nat)(n:Nat):(FW ro).room n:=fun _ h=>by simp[FW,Fence.wide] at h
theorem BK{o:Oper}{a:Act}{w:World}{next:Act→World→Prop}{Q:Exit→Act→World→Prop}(h:o.wpIn (FW ro) n P a w next Q):
  (∃a' w',next a' w')∨∃ex a' w',Q ex a' w':=by
 have h:=h.2;generalize(o.semAt (FW ro).round a.eval).run P w=r at h;cases r with
 |ok x w'=>
  cases x<;>simp only[Oper.uponIn] at h
  case value v=>exact .inl ⟨_,_,h⟩
  case skip=>exact .inl ⟨_,_,h⟩
  case defer d=>exact .inl ⟨_,_,h⟩
  case enter f args=>
   obtain⟨e,w'',fr,hr,_⟩:=h.2.2 [] (yo _ _);cases e with
   |returned v=>exact .inl ⟨_,_,hr⟩
   |panicked c=>exact .inr ⟨_,_,_,hr⟩
   |outgrown=>obtain⟨a1,w1,hq⟩:=hr;exact .inr ⟨_,_,_,hq⟩
  case row row args=>
   obtain⟨v,w'',hr,_⟩:=h.2 (Frame.ofRow P row args .normal) [] (yo _ _);exact .inl ⟨_,_,hr⟩
  case round l f tmps as bd=>
   obtain⟨e,w'',hr,_⟩:=h.2.2 (Frame.ofRow P "" #[] .normal) [] (yo _ _);cases e with
   |returned v=>exact .inl ⟨_,_,hr⟩
   |panicked c=>exact .inr ⟨_,_,_,hr⟩
   |outgrown=>obtain⟨a1,w1,hq⟩:=hr;exact .inr ⟨_,_,_,hq⟩
  all_goals (first|exact h.elim|skip)
 |halt x w'=>
  cases x<;>simp only[Oper.uponIn] at h
  case panic v=>exact .inr ⟨_,_,_,h⟩
  all_goals (first|exact h.elim|skip)
theorem kA{ops:Array Oper}{Q:Exit→Act→World→Prop}:∀{os:List Oper} {a:Act} {w:World},wpListIn (FW ro) n P ops Q os a w→∃ex a' w',Q ex a' w'
 |[],a,w,h=>⟨_,_,_,h⟩
 |o::os,a,w,h=>by
  unfold wpListIn at h;split at h
  ·rcases BK h with⟨a',w',h'⟩|h'
   ·exact kA h'
   ·exact h'
  ·exact kA h.2
theorem vG{N:Nat}:∀{l:List bq} (i:Nat),cV N l=true→cV N (l.take i)=true
 |[],i,h=>by simp[cV]
 |x::l,0,h=>by simp[cV]
 |x::l,i+1,h=>by
  simp only[cV,List.take_succ_cons,Bool.and_eq_true] at h⊢;exact⟨h.1,vG i h.2⟩
theorem vF{N:Nat}:∀{l:List bq} (i:Nat),cV N l=true→cV N (l.drop i)=true
 |[],i,h=>by simp[cV]
 |x::l,0,h=>by simpa using h
 |x::l,i+1,h=>by
  simp only[cV,Bool.and_eq_true] at h;simpa using vF i h.2
theorem tI{N:Nat}:∀{l:List bq} {i:Nat} {x:bq},cV N l=true→l[i]?=some x→uX N x.dst=true
 |[],i,x,h,hx=>by simp at hx
 |y::l,0,x,h,hx=>by simp only[cV,Bool.and_eq_true] at h;simp at hx;subst hx;exact h.1
 |y::l,i+1,x,h,hx=>by simp only[cV,Bool.and_eq_true] at h;simp at hx;exact tI h.2 hx
theorem OT.sO{l:List bq}{e:Env}{h:Heap}{tr:List aK}{e':Env}{h':Heap}(ho:OT P H0 l e h tr e' h'){ops:Array Oper}{os:List Oper}
  (hos:os.map (bH P ops)=l){N:Nat}(hok:cV N l=true){ρ:cD}{D:Dom}{w:World}{a:Act}(hi:Inv P H0 ρ D h w)(he:bJ ρ D N e a)(i:Nat):
  ∃ρ' w' a',Inv P H0 ρ' (grow D h.next (ay tr h' i).next) (ay tr h' i) w'∧bJ ρ' (grow D h.next (ay tr h' i).next) N (cN l tr i e) a'∧h.next≤(ay tr h' i).next:=by
 have:=nH (ro:=none) (n:=0) (ho.take i) (ops:=ops) (os:=os.take i) (by rw[List.map_take,hos]) (vG i hok) hi he
  (Q:=fun _ a' w'=>∃ρ',Inv P H0 ρ' (grow D h.next (ay tr h' i).next) (ay tr h' i) w'∧bJ ρ' (grow D h.next (ay tr h' i).next) N (cN l tr i e) a'∧h.next≤(ay tr h' i).next)
  (fun ρ' w' a' g1 g2 g3 g4=>⟨ρ',g1,g3,g2.next⟩)
 obtain⟨_,a',w',ρ',g⟩:=kA this;exact⟨ρ',w',a',g⟩
theorem OT.drop:∀{l:List bq} {e:Env} {h:Heap} {tr:List aK} {e':Env} {h':Heap},OT P H0 l e h tr e' h'→∀i:Nat,
  OT P H0 (l.drop i) (cN l tr i e) (ay tr h' i) (tr.drop i) e' h'
 |[],e,h,tr,e',h',ho,i=>by
  cases tr with
  |cons _ _=>simp[OT] at ho
  |nil=>simp only[OT] at ho;obtain⟨rfl,rfl⟩:=ho;cases i<;>simp[OT,cN,ay,dP]
 |y::l,e,h,tr,e',h',ho,i=>by
  cases tr with
  |nil=>simp[OT] at ho
  |cons m tr=>
   cases i with
   |zero=>
    have:=ho.zero;simpa[cN,this] using ho
   |succ i=>
    simp only[OT] at ho;simp only[List.drop_succ_cons,cN];rcases ho.2.2 with⟨h1,h2,h3,hr⟩|⟨h1,h2,h4,h3,hr⟩
    ·have:=hr.drop i;rw[h3];exact this
    ·exact hr.drop i
theorem AP(tr:List aK)(h':Heap)(i j:Nat):ay (tr.drop i) h' j=ay tr h' (i+j):=by
 unfold ay;rw[List.drop_drop]
structure Vu(P:Program)(H0:Nat)(D:Dom)(N:Nat)(l:List bq)(e:Env)(h:Heap)(tr:List aK)(h':Heap):Prop where
 mono:∀i j,i≤j→(ay tr h' i).next≤(ay tr h' j).next
 low:∀i,h.next≤(ay tr h' i).next
 top:∀i b,(ay tr h' i).next≤b→(ay tr h' i).get b=none
 run:∀i,∃ρ' w' a',Inv P H0 ρ' (grow D h.next (ay tr h' i).next) (ay tr h' i) w'∧bJ ρ' (grow D h.next (ay tr h' i).next) N (cN l tr i e) a'
theorem OT.tM{l:List bq}{e:Env}{h:Heap}{tr:List aK}{e':Env}{h':Heap}(ho:OT P H0 l e h tr e' h'){ops:Array Oper}{os:List Oper}
  (hos:os.map (bH P ops)=l){N:Nat}(hok:cV N l=true){ρ:cD}{D:Dom}{w:World}{a:Act}(hi:Inv P H0 ρ D h w)(he:bJ ρ D N e a):
  Vu P H0 D N l e h tr h' where
 mono:=fun i j hij=>by
  obtain⟨ρ',w',a',g1,g2,g3⟩:=ho.sO hos hok hi he i;obtain⟨_,_,_,_,_,g⟩:=(ho.drop i).sO (os:=os.drop i) (by rw[List.map_drop,hos]) (vF i hok) g1 g2 (j-i);rw[AP] at g;have:i+(j-i)=j:=by omega
  rw[this] at g;exact g
 low:=fun i=>by
  obtain⟨_,_,_,_,_,g⟩:=ho.sO hos hok hi he i;exact g
 top:=fun i=>by
  obtain⟨_,_,_,g,_,_⟩:=ho.sO hos hok hi he i;exact g.top
 run:=fun i=>by
  obtain⟨ρ',w',a',g1,g2,_⟩:=ho.sO hos hok hi he i;exact⟨ρ',w',a',g1,g2⟩
end
mutual
theorem jI{D D':Dom}:∀{v:AV},v.aR D→v.aR D'→v.aR fun b=>D b∧D' b
 |.bool _,_,_|.int _ _,_,_|.str _,_,_|.de,_,_|.aN,_,_|.gj _,_,_|.jB,_,_|.jL,_,_|.jq,_,_=>by simp[AV.aR]
 |.ptr b o,h,h'=>by simp only[AV.aR] at*;exact⟨h,h'⟩
 |.sl b o l c op,h,h'=>by simp only[AV.aR] at*;exact⟨h,h'⟩
 |.rest b o k,h,h'=>by simp only[AV.aR] at*;exact⟨h,h'⟩
 |.map b,h,h'=>by simp only[AV.aR] at*;exact⟨h,h'⟩
 |.yield b,h,h'=>by simp only[AV.aR] at*;exact⟨h,h'⟩
 |.func fn first aX,h,h'=>by
  simp only[AV.aR] at*;exact⟨h.1,lq h.2.1 h'.2.1,lq h.2.2 h'.2.2⟩
 |.iface t v,h,h'=>by
  simp only[AV.aR] at*;exact jI h h'
 |.agg cs,h,h'=>by
  simp only[AV.aR] at*;exact lq h h'
 |.cg cs,h,h'=>by
  simp only[AV.aR] at*;exact lq h h'
 |.fz _ _,h,h'=>by simp only[AV.aR] at h
 |.fp _ _,h,h'=>by simp only[AV.aR] at h
theorem lq{D D':Dom}:∀{l:List AV},bg D l→bg D' l→bg (fun b=>D b∧D' b) l
 |[],_,_=>by simp[bg]
 |v::vs,h,h'=>by
  simp only[bg] at*;exact⟨jI h.1 h'.1,lq h.2 h'.2⟩
end
theorem wF{P:Program}{H0:Nat}{ρ ρ':cD}{D D':Dom}{L L':Loc}{x:cw}{w w':World}(h:eE P H0 ρ D L x w)(h':eE P H0 ρ' D' L' x w'):
  eE P H0 ρ (fun b=>D b∧D' b) L x w:=by
 cases x with
 |cells vs wr es=>
  obtain⟨c,t,fr,hc,h1,h2⟩:=h;obtain⟨c',t',fr',gR,wz,pN⟩:=h';exact⟨c,t,fr,hc,fun i v hv=>⟨(h1 i v hv).1,jI (h1 i v hv).2 (wz i v hv).2⟩,h2⟩
 |map es bs c=>
  obtain⟨ms,k,hc,h0,h1,h2,h3⟩:=h;obtain⟨ms',k',gR,h0',wz,pN,_⟩:=h';exact⟨ms,k,hc,h0,h1,fun p hp=>⟨jI (h2 p hp).1 (pN p hp).1,jI (h2 p hp).2 (pN p hp).2⟩,h3⟩
 |iter m since seen last=>
  obtain⟨h0,hm,ho,sn,hc,hs⟩:=h;exact⟨h0,⟨hm,h'.2.1⟩,ho,sn,hc,hs⟩
 |loop st cu e ps a b=>
  obtain⟨h0,l,hl,g1,g2,g3,g4,g5⟩:=h;obtain⟨h0',l',hl',g1',N5,g3',g4',g5'⟩:=h';exact⟨h0,l,hl,g1,g2,g3,fun i=>jI (g4 i) (g4' i),g5⟩
 |defers=>exact h
end Ads
end Go.Proofs.Ytenafeojcgmnhaa
set_option linter.unusedSimpArgs false
set_option linter.unusedVariables false
namespace Go.Proofs.Ytenafeojcgmnhaa
namespace Ads
def og(bs:List Nat)(j i:Nat):Prop:=(bs.getD j 0).testBit i=true
structure Rg(P:Program)(H0:Nat)(D:Dom)(N:Nat)(l:List bq)(bs:List Nat)(e:Env)(h:Heap)(tr:List aK)(e':Env)(h':Heap):Prop where
 ot:OT P H0 l e h tr e' h'
 tM:Vu P H0 D N l e h tr h'
 Jf:∀b,D b→b<h.next
 pairs:∀(i j:Nat) (x y:bq),i<j→l[i]?=some x→l[j]?=some y→og bs j i∨(¬(bT x.op=true∧bT y.op=true)∧nq x y=true)
 ok:cV N l=true
section
variable {P:Program} {H0:Nat} {D:Dom} {N:Nat} {l:List bq} {bs:List Nat} {e:Env} {h:Heap} {tr:List aK} {e':Env} {h':Heap}
theorem Rg.le_last(R:Rg P H0 D N l bs e h tr e' h')(c:Nat):(ay tr h' c).next≤h'.next:=by
 by_cases hc:c≤l.length
 ·have:=R.tM.mono c l.length hc
  rwa [R.ot.last (Nat.le_refl _)] at this
 ·rw[R.ot.last (by omega)];exact Nat.le_refl _
theorem Rg.made(R:Rg P H0 D N l bs e h tr e' h'){j:Nat}{x:bq}{m:aK}{b:cw}(hx:l[j]?=some x)(hm:tr[j]?=some m)(hb:dG x m=some b):
  (∃o f,x.op=.a o∧m.on=true∧aI o m.vals=some (b,f)∧m.v=f (ay tr h' j).next)∧ay tr h' (j+1)=(ay tr h' j).new b∧m.h=ay tr h' j:=by
 obtain⟨m',g1,g2,g3,g4⟩:=R.ot.at hx;rw[hm] at g1;cases g1
 unfold dG at hb;split at hb
 ·rename_i o ho dY;simp only[Option.map_eq_some_iff] at hb;obtain⟨⟨b',f⟩,hb,rfl⟩:=hb;rcases g4 with g4|⟨k1,k2,k3⟩
  ·rw[g4.1] at dY;simp at dY
  ·rw[ho] at k3;obtain⟨x',f',q1,q2,q3⟩:=k3;rw[hb] at q1;cases q1
   exact⟨⟨o,f,ho,dY,hb,q2⟩,q3,g2⟩
 ·simp at hb
theorem Rg.still(R:Rg P H0 D N l bs e h tr e' h'){j:Nat}{x:bq}{m:aK}(hx:l[j]?=some x)(hm:tr[j]?=some m)(hb:dG x m=none)(he:bT x.op=false):
  ay tr h' (j+1)=ay tr h' j:=by
 obtain⟨m',g1,g2,g3,g4⟩:=R.ot.at hx;rw[hm] at g1;cases g1
 rcases g4 with g4|⟨k1,k2,k3⟩
 ·exact g4.2.2.2
 ·cases ho:x.op with
  |p o=>rw[ho] at k3;exact k3.2
  |r o=>rw[ho] at k3;exact k3.2
  |a o=>
   rw[ho] at k3;obtain⟨x',f',q1,q2,q3⟩:=k3;unfold dG at hb;rw[ho,k1] at hb;simp[q1] at hb
  |bad=>rw[ho] at k3;exact k3.elim
  |e o=>rw[ho] at he;simp[bT] at he
  |call=>rw[ho] at he;simp[bT] at he
  |invoke s=>rw[ho] at he;simp[bT] at he
  |panic=>rw[ho] at he;simp[bT] at he
theorem Rg.Ef(R:Rg P H0 D N l bs e h tr e' h'){j:Nat}{x:bq}(hx:l[j]?=some x):∃m,tr[j]?=some m:=by
 obtain⟨m,g,_⟩:=R.ot.at hx;exact⟨m,g⟩
theorem Rg.A6(R:Rg P H0 D N l bs e h tr e' h'){j i:Nat}{x:bq}{m:aK}{b:cw}(hx:l[j]?=some x)(hm:tr[j]?=some m)(hb:dG x m=some b)(hji:j<i):
  (ay tr h' j).next<(ay tr h' i).next:=by
 have h1:=R.made hx hm hb;have h2:=R.tM.mono (j+1) i (by omega);rw[h1.2.1] at h2;simp at h2;omega
theorem Rg.Ei(R:Rg P H0 D N l bs e h tr e' h'){c b:Nat}(hb:b<(ay tr h' c).next):(cr l tr h' c).get b=(ay tr h' c).get b:=by
 refine uG _ _ _ b ?_;intro j x m hx hm hne;rw[List.getElem?_drop] at hx hm;obtain⟨bk,Co⟩:=Option.ne_none_iff_exists'.1 hne;rw[(R.made hx hm Co).2.2];have:=R.tM.mono c (c+j) (by omega);omega
theorem Bn:∀(l:List bq) (tr:List aK) (t:Tr cw) (j:Nat) (x:bq) (m:aK) (b:cw),l[j]?=some x→tr[j]?=some m→dG x m=some b→
  (∀(i:Nat) (y:bq) (n:aK),j<i→l[i]?=some y→tr[i]?=some n→dG y n≠none→n.h.next≠m.h.next)→(dS l tr t).get m.h.next=some b
 |[],tr,t,j,x,m,b,hx,hm,hb,hi=>by simp at hx
 |y::l,[],t,j,x,m,b,hx,hm,hb,hi=>by simp at hm
 |y::l,n::tr,t,0,x,m,b,hx,hm,hb,hi=>by
  simp at hx hm;subst hx;subst hm;simp only[dS,hb];rw[uG,Tr.bt,if_pos rfl];intro i z k hz hk hne;exact hi (i+1) z k (by omega) (by simpa using hz) (by simpa using hk) hne
 |y::l,n::tr,t,j+1,x,m,b,hx,hm,hb,hi=>by
  have:=fun t=>Bn l tr t j x m b (by simpa using hx) (by simpa using hm) hb (fun i z k hlt hz hk=>hi (i+1) z k (by omega) (by simpa using hz) (by simpa using hk));simp only[dS];split
  ·exact this _
  ·exact this _
theorem Rg.NM(R:Rg P H0 D N l bs e h tr e' h'){c j:Nat}{x:bq}{m:aK}{b:cw}(hx:l[j]?=some x)(hm:tr[j]?=some m)(hb:dG x m=some b)(hc:c≤j):
  (cr l tr h' c).get (ay tr h' j).next=some b:=by
 have A0:=(R.made hx hm hb).2.2;have:=Bn (l.drop c) (tr.drop c) (dP (tr.drop c) h').m (j-c) x m b (by rw[List.getElem?_drop];rw[show c+(j-c)=j by omega];exact hx)
  (by rw[List.getElem?_drop];rw[show c+(j-c)=j by omega];exact hm) hb (fun i y n hlt hy hn hne=>by
   rw[List.getElem?_drop] at hy hn;obtain⟨bk,Co⟩:=Option.ne_none_iff_exists'.1 hne;rw[(R.made hy hn Co).2.2,A0];have:=R.A6 hx hm hb (i:=c+i) (by omega);omega)
 rw[A0] at this;exact this
theorem Rg.Lr(R:Rg P H0 D N l bs e h tr e' h'){c b:Nat}(hb:h'.next≤b):(cr l tr h' c).get b=none:=by
 have:(cr l tr h' c).get b=(ay tr h' c).get b:=by
  refine uG _ _ _ b ?_;intro j x m hx hm hne;rw[List.getElem?_drop] at hx hm;obtain⟨bk,Co⟩:=Option.ne_none_iff_exists'.1 hne;rw[(R.made hx hm Co).2.2];have h1:=R.A6 hx hm Co (i:=c+j+1) (by omega);have h2:=R.le_last (c+j+1);omega
 rw[this];exact R.tM.top c b (Nat.le_trans (R.le_last c) hb)
theorem drop_cons{α:Type}{l:List α}{i:Nat}{x:α}(h:l[i]?=some x):l.drop i=x::l.drop (i+1):=by
 obtain⟨hlt,rfl⟩:=List.getElem?_eq_some_iff.1 h;exact List.drop_eq_getElem_cons hlt
theorem Rg.NN(R:Rg P H0 D N l bs e h tr e' h'){i:Nat}{x:bq}(hx:l[i]?=some x)(he:bT x.op=false)(b:Nat):
  (cr l tr h' i).get b=(cr l tr h' (i+1)).get b:=by
 obtain⟨m,hm⟩:=R.Ef hx;show(dS (l.drop i) (tr.drop i) (ay tr h' i).m).get b=(dS (l.drop (i+1)) (tr.drop (i+1)) (ay tr h' (i+1)).m).get b;rw[drop_cons hx,drop_cons hm];simp only[dS];cases hb:dG x m with
 |none=>simp only[];rw[R.still hx hm hb he]
 |some bk=>
  simp only[];have:=R.made hx hm hb;rw[this.2.1,this.2.2];rfl
theorem Rg.tN(R:Rg P H0 D N l bs e h tr e' h'){c:Nat}(b:Nat):∀(k:Nat),(∀j x,c≤j→j<c+k→l[j]?=some x→bT x.op=false)→(cr l tr h' c).get b=(cr l tr h' (c+k)).get b
 |0,_=>rfl
 |k+1,hn=>by
  rw[R.tN b k (fun j x h1 h2=>hn j x h1 (by omega))];cases hx:l[c+k]? with
  |some x=>exact R.NN hx (hn (c+k) x (by omega) (by omega) hx) b
  |none=>
   have hlen:l.length≤c+k:=List.getElem?_eq_none_iff.1 hx;show(dS (l.drop (c+k)) (tr.drop (c+k)) (ay tr h' (c+k)).m).get b=(dS (l.drop (c+k+1)) (tr.drop (c+k+1)) (ay tr h' (c+k+1)).m).get b;have e1:l.drop (c+k)=[]:=List.drop_eq_nil_of_le hlen;have e2:l.drop (c+k+1)=[]:=List.drop_eq_nil_of_le (by omega);rw[R.ot.last hlen,R.ot.last (i:=c+k+1) (by omega),e1,e2];simp[dS]
theorem Rg.Rv(R:Rg P H0 D N l bs e h tr e' h'){i:Nat}{x:bq}(hx:l[i]?=some x)(he:bT x.op=true){b:Nat}(hb:(ay tr h' (i+1)).next≤b):
  (cr l tr h' i).get b=(cr l tr h' (i+1)).get b:=by
 obtain⟨m,hm⟩:=R.Ef hx;show(dS (l.drop i) (tr.drop i) (ay tr h' i).m).get b=(dS (l.drop (i+1)) (tr.drop (i+1)) (ay tr h' (i+1)).m).get b;rw[drop_cons hx,drop_cons hm];have hn:dG x m=none:=by
  unfold dG;split
  ·rename_i o ho dY;rw[ho] at he;simp[bT] at he
  ·rfl
 simp only[dS,hn];refine qV _ _ _ _ b ?_;have h1:=R.tM.top (i+1) b hb;have h2:=R.tM.top i b (Nat.le_trans (R.tM.mono i (i+1) (by omega)) hb);unfold Heap.get at h1 h2;rw[h1,h2]
def Cut(l:List bq)(S:Nat→Bool)(c:Nat):Prop:=∀j x,l[j]?=some x→bT x.op=true→(S j=true↔j<c)
theorem Rg.Eh(R:Rg P H0 D N l bs e h tr e' h'){S:Nat→Bool}{c c':Nat}(h1:Cut l S c)(h2:Cut l S c')(b:Nat):(cr l tr h' c).get b=(cr l tr h' c').get b:=by
 have key:∀c c',c≤c'→Cut l S c→Cut l S c'→(cr l tr h' c).get b=(cr l tr h' c').get b:=by
  intro c c' hle g1 g2;have:=R.tN (c:=c) b (c'-c) (fun j x hj1 hj2 hx=>by
   cases hx':bT x.op with
   |false=>rfl
   |true=>
    have a1:=g1 j x hx hx';have a2:=g2 j x hx hx';have:=a1.1 (a2.2 (by omega));omega)
  rwa [show c+(c'-c)=c' by omega] at this
 by_cases hle:c≤c'
 ·exact key c c' hle h1 h2
 ·exact(key c' c (by omega) h2 h1).symm
def DS(D:Dom)(l:List bq)(tr:List aK)(h':Heap)(S:Nat→Bool):Dom:=fun b=>
 D b∨∃j,S j=true∧j<l.length∧(ay tr h' j).next≤b∧b<(ay tr h' (j+1)).next
structure J(P:Program)(H0:Nat)(D:Dom)(N:Nat)(l:List bq)(bs:List Nat)(e:Env)(h:Heap)(tr:List aK)(h':Heap)(qE:cD)(w0:World)(a0:Act)
  (S:Nat→Bool)(c:Nat)(ρ:cD)(a:Act)(w:World):Prop where
 cut:Cut l S c
 closed:∀j,S j=true→∀i,og bs j i→S i=true
 inv:Inv P H0 ρ (DS D l tr h' S) (cr l tr h' c) w
 ext:Ext qE D h w0 ρ (cr l tr h' c) w
 made:∀(j:Nat) (x:bq) (m:aK) (bk:cw),l[j]?=some x→tr[j]?=some m→dG x m=some bk→S j=false→(cr l tr h' c).get (ay tr h' j).next=some bk
 env:bJ ρ (DS D l tr h' S) N (fP S l tr e) a
 defers:a.defers=a0.defers
theorem Inv.congr{ρ:cD}{h2:Heap}{w:World}(i:Inv P H0 ρ D h w)(hn:h2.next=h.next)(hg:∀b,h2.get b=h.get b):Inv P H0 ρ D h2 w:=by
 have iQ:∀b,h2.wr b=h.wr b:=fun b=>by simp only[Heap.wr,hg]
 refine⟨fun b hb=>by rw[hn];exact i.lt b hb,fun b hb=>by rw[hg];exact i.top b (by omega),i.low,fun b x hb hx=>i.bD b x hb (by rw[←hg];exact hx),fun b b' hb hb' hne hw hx=>?_⟩;rw[iQ] at hw;rw[hg] at hx;exact i.apart b b' hb hb' hne hw hx
theorem Ext.congr{ρ ρ':cD}{h2 h3:Heap}{w w':World}(x:Ext ρ D h w ρ' h2 w')(hn:h3.next=h2.next)(hg:∀b,h3.get b=h2.get b):Ext ρ D h w ρ' h3 w':=by
 have iQ:∀b,h3.wr b=h2.wr b:=fun b=>by simp only[Heap.wr,hg]
 exact⟨by rw[hn];exact x.next,x.bx,x.size,x.frame,fun b h1 h2=>by rw[hg];exact x.iK b h1 h2,fun b h1 h2=>by rw[hg] at h2;rw[iQ];exact x.old b h1 h2,
  fun b h1 h2=>x.fresh b h1 (by omega),x.tape,x.os,x.output⟩
theorem bJ.congr{ρ:cD}{e1 e2:Env}{a:Act}(he:bJ ρ D N e1 a)(hg:∀d,e2.get d=e1.get d):bJ ρ D N e2 a:=
 ⟨he.size,fun i=>by rw[hg];exact he.get i,fun i=>by rw[hg];exact he.dom i⟩
theorem Rg.rH(R:Rg P H0 D N l bs e h tr e' h'){S:Nat→Bool}{c i:Nat}{x:bq}(GH:Cut l S c)(kK:∀j,S j=true→∀i,og bs j i→S i=true)(hx:l[i]?=some x)(hsi:S i=false)
  (hpre:∀j,og bs i j→S j=true):Cut l (fun j=>S j||decide (j=i)) (cond (bT x.op) (i+1) c)∧(bT x.op=true→Cut l S i):=by
 have hi:bT x.op=true→Cut l S i:=by
  intro he j y hy K6;constructor
  ·intro hs;by_cases hji:j<i
   ·exact hji
   ·have hne:j≠i:=by rintro rfl;rw[hs] at hsi;simp at hsi
    rcases R.pairs i j x y (by omega) hx hy with hb|hb
    ·have:=kK j hs i hb;rw[this] at hsi;simp at hsi
    ·exact absurd ⟨he,K6⟩ hb.1
  ·intro hji;rcases R.pairs j i y x hji hy hx with hb|hb
   ·exact hpre j hb
   ·exact absurd ⟨K6,he⟩ hb.1
 refine⟨?_,hi⟩;cases he:bT x.op with
 |true=>
  intro j y hy K6;have:=hi he j y hy K6;by_cases hji:j=i
  ·subst hji;simp
  ·simp[hji,this];omega
 |false=>
  intro j y hy K6;have hne:j≠i:=by rintro rfl;rw[hx] at hy;cases hy;rw[he] at K6;simp at K6
  simp[hne,GH j y hy K6]
theorem Rg.slot(R:Rg P H0 D N l bs e h tr e' h'){S:Nat→Bool}{i:Nat}{x:bq}(kK:∀j,S j=true→∀i,og bs j i→S i=true)(hx:l[i]?=some x)(hsi:S i=false)
  (hpre:∀j,og bs i j→S j=true){d:Nat}(hd:d∈x.reads):(fP S l tr e).get d=(cN l tr i e).get d:=by
 refine mQ l tr S i d e e rfl R.ot.length ?_;intro j y hy BU;have hnm:x.names.contains d=true:=by simp[bq.names,hd]
 by_cases hji:j<i
 ·rw[decide_eq_true hji];rcases R.pairs j i y x hji hy hx with hb|hb
  ·exact hpre j hb
  ·have:=hb.2;unfold nq at this;rw[BU] at this;simp only[hnm] at this;simp at this
 ·rw[decide_eq_false hji];by_cases he:j=i
  ·subst he;exact hsi
  ·rcases R.pairs i j x y (by omega) hx hy with hb|hb
   ·cases hs:S j with
    |false=>rfl
    |true=>have:=kK j hs i hb;rw[this] at hsi;simp at hsi
   ·have:=hb.2;unfold nq at this;rw[BU] at this;simp only[hnm] at this;simp at this
theorem Rg.late(R:Rg P H0 D N l bs e h tr e' h'){S:Nat→Bool}{i:Nat}{x:bq}(kK:∀j,S j=true→∀i,og bs j i→S i=true)(hx:l[i]?=some x)(hsi:S i=false)
  {d:Nat}{j:Nat}{y:bq}(hij:i<j)(hy:l[j]?=some y)(MW:x.dst=some d)(BU:y.dst=some d):S j=false:=by
 rcases R.pairs i j x y hij hx hy with hb|hb
 ·cases hs:S j with
  |false=>rfl
  |true=>have:=kK j hs i hb;rw[this] at hsi;simp at hsi
 ·have:=hb.2;unfold nq at this;rw[BU,MW] at this;simp[bq.names,BU] at this
end
end Ads
end Go.Proofs.Ytenafeojcgmnhaa
set_option linter.unusedSimpArgs false
set_option linter.unusedVariables false
namespace Go.Proofs.Ytenafeojcgmnhaa
namespace Ads
section
variable {P:Program} {H0:Nat} {D:Dom} {N:Nat} {l:List bq} {bs:List Nat} {e:Env} {h:Heap} {tr:List aK} {e':Env} {h':Heap}
 {qE:cD} {w0:World} {a0:Act} {S:Nat→Bool} {c:Nat} {ρ:cD} {a:Act} {w:World} {i:Nat} {x:bq} {m:aK}
def dg(S:Nat→Bool)(i:Nat):Nat→Bool:=fun j=>S j||decide (j=i)
theorem jU(hi:i<l.length)(b:Nat):DS D l tr h' (dg S i) b↔DS D l tr h' S b∨((ay tr h' i).next≤b∧b<(ay tr h' (i+1)).next):=by
 constructor
 ·rintro(hb|⟨j,hs,hj,h1,h2⟩)
  ·exact .inl (.inl hb)
  ·by_cases hji:j=i
   ·subst hji;exact .inr ⟨h1,h2⟩
   ·simp only[dg,hji,decide_false,Bool.or_false] at hs;exact .inl (.inr ⟨j,hs,hj,h1,h2⟩)
 ·rintro((hb|⟨j,hs,hj,h1,h2⟩)|hb)
  ·exact .inl hb
  ·exact .inr ⟨j,by simp[dg,hs],hj,h1,h2⟩
  ·exact .inr ⟨i,by simp[dg],hi,hb.1,hb.2⟩
theorem FA(hi:i<l.length)(hs:ay tr h' (i+1)=ay tr h' i):DS D l tr h' (dg S i)=DS D l tr h' S:=by
 funext b
 rw[eq_iff_iff,jU hi,hs];constructor
 ·rintro(hb|hb)
  ·exact hb
  ·omega
 ·exact .inl
theorem Heap.jy{h1 h2:Heap}{b:Nat}(hg:h1.get b=h2.get b):h1.wr b=h2.wr b:=by simp only[Heap.wr,hg]
structure Up(bs:List Nat)(l:List bq)(tr:List aK)(S:Nat→Bool)(i:Nat)(x:bq)(m:aK):Prop where
 hx:l[i]?=some x
 hm:tr[i]?=some m
 hsi:S i=false
 pre:∀j,og bs i j→S j=true
theorem Up.lt(u:Up bs l tr S i x m):i<l.length:=(List.getElem?_eq_some_iff.1 u.hx).1
theorem J.oI(j:J P H0 D N l bs e h tr h' qE w0 a0 S c ρ a w)(u:Up bs l tr S i x m):∀k,dg S i k=true→∀k',og bs k k'→dg S i k'=true:=by
 intro k hk k' hb;simp only[dg,Bool.or_eq_true,decide_eq_true_eq] at hk⊢;rcases hk with hk|rfl
 ·exact .inl (j.closed k hk k' hb)
 ·exact .inl (u.pre k' hb)
theorem J.vA(R:Rg P H0 D N l bs e h tr e' h')(j:J P H0 D N l bs e h tr h' qE w0 a0 S c ρ a w)(u:Up bs l tr S i x m){ρ':cD}(gQ:∀b,DS D l tr h' S b→ρ' b=ρ b)
  (hv:m.v.aR (DS D l tr h' (dg S i))):bJ ρ' (DS D l tr h' (dg S i)) N (fP (dg S i) l tr e) (a.put x.dst (real ρ' m.v)):=by
 have h1:bJ ρ' (DS D l tr h' (dg S i)) N (fP S l tr e) a:=j.env.mono gQ (fun b hb=>(jU u.lt b).2 (.inl hb));refine(h1.put (tI R.ok u.hx) hv).congr ?_;intro d;exact xC l tr S (dg S i) i x m e d R.ot.length u.hx u.hm (fun _=>rfl) u.hsi (fun k y hk hy MW BU=>R.late j.closed u.hx u.hsi hk hy MW BU)
theorem J.slots(R:Rg P H0 D N l bs e h tr e' h')(j:J P H0 D N l bs e h tr h' qE w0 a0 S c ρ a w)(u:Up bs l tr S i x m){d:Nat}(hd:d∈x.reads):
  (fP S l tr e).get d=(cN l tr i e).get d:=R.slot j.closed u.hx u.hsi u.pre hd
theorem kM{rs:List bG}{t:Nat}(h:bG.t t∈rs):t∈ig rs:=by
 induction rs with
 |nil=>simp at h
 |cons r rs ih=>
  rcases List.mem_cons.1 h with rfl|hh
  ·simp[ig]
  ·cases r<;>simp[ig,ih hh]
theorem J.vals(R:Rg P H0 D N l bs e h tr e' h')(j:J P H0 D N l bs e h tr h' qE w0 a0 S c ρ a w)(u:Up bs l tr S i x m):x.args.map (fP S l tr e).ev=x.args.map (cN l tr i e).ev:=by
 refine List.map_congr_left fun r hr=>?_;cases r with
 |c v=>rfl
 |t d=>exact j.slots R u (List.mem_append_right _ (kM hr))
theorem J.wanted(R:Rg P H0 D N l bs e h tr e' h')(j:J P H0 D N l bs e h tr h' qE w0 a0 S c ρ a w)(u:Up bs l tr S i x m):bP x (fP S l tr e)=bP x (cN l tr i e):=by
 unfold bP;cases hg:x.guard with
 |none=>rfl
 |some p=>
  obtain⟨d,want⟩:=p;simp only;rw[j.slots R u (by simp[bq.reads,hg])]
theorem J.quiet(R:Rg P H0 D N l bs e h tr e' h')(j:J P H0 D N l bs e h tr h' qE w0 a0 S c ρ a w)(u:Up bs l tr S i x m)(hst:ay tr h' (i+1)=ay tr h' i)(hmb:dG x m=none)
  (hv:m.v.aR (DS D l tr h' S)):J P H0 D N l bs e h tr h' qE w0 a0 (dg S i) (cond (bT x.op) (i+1) c) ρ (a.put x.dst (real ρ m.v)) w:=by
 have hcs:=R.rH j.cut j.closed u.hx u.hsi u.pre;have hds:DS D l tr h' (dg S i)=DS D l tr h' S:=FA u.lt hst;have GN:∀b,(cr l tr h' (cond (bT x.op) (i+1) c)).get b=(cr l tr h' c).get b:=by
  intro b;cases he:bT x.op with
  |false=>rfl
  |true=>
   rw[R.Eh j.cut (hcs.2 he) b];simp only[cond_true];show(dS (l.drop (i+1)) (tr.drop (i+1)) (ay tr h' (i+1)).m).get b=(dS (l.drop i) (tr.drop i) (ay tr h' i).m).get b;rw[drop_cons u.hx,drop_cons u.hm,hst];simp only[dS,hmb]
 refine⟨hcs.1,j.oI u,?_,j.ext.congr rfl GN,?_,?_,?_⟩
 ·rw[hds];exact j.inv.congr rfl GN
 ·intro k y n bk hy hn hb hs;rw[GN];refine j.made k y n bk hy hn hb ?_;simp only[dg,Bool.or_eq_false_iff] at hs;exact hs.1
 ·exact j.vA R u (fun _ _=>rfl) (by rw[hds];exact hv)
 ·rw[←j.defers];cases x.dst<;>rfl
theorem J.xW(j:J P H0 D N l bs e h tr h' qE w0 a0 S c ρ a w){c':Nat}(hg:∀(k:Nat) (y:bq) (n:aK) (bk:cw),l[k]?=some y→tr[k]?=some n→dG y n=some bk→S k=false→k≠i→
   (cr l tr h' c).get (ay tr h' k).next=some bk→(cr l tr h' c').get (ay tr h' k).next=some bk):
  ∀(k:Nat) (y:bq) (n:aK) (bk:cw),l[k]?=some y→tr[k]?=some n→dG y n=some bk→dg S i k=false→(cr l tr h' c').get (ay tr h' k).next=some bk:=by
 intro k y n bk hy hn hb hs;simp only[dg,Bool.or_eq_false_iff,decide_eq_false_iff_not] at hs;exact hg k y n bk hy hn hb hs.1 hs.2 (j.made k y n bk hy hn hb hs.1)
theorem Rg.DZ(R:Rg P H0 D N l bs e h tr e' h'){k:Nat}{y:bq}{n:aK}{bk:cw}(hy:l[k]?=some y)(hn:tr[k]?=some n)(hb:dG y n=some bk)(hs:S k=false):
  ¬DS D l tr h' S (ay tr h' k).next:=by
 rintro(hd|⟨q,hq,hql,h1,h2⟩)
 ·have:=R.Jf _ hd;have:=R.tM.low k;omega
 ·by_cases hqk:q=k
  ·subst hqk;rw[hs] at hq;simp at hq
  ·by_cases hlt:q<k
   ·have:=R.tM.mono (q+1) k (by omega);omega
   ·have:=R.A6 hy hn hb (i:=q) (by omega);omega
theorem J.alloc(R:Rg P H0 D N l bs e h tr e' h')(j:J P H0 D N l bs e h tr h' qE w0 a0 S c ρ a w)(u:Up bs l tr S i x m){bk:cw}(hb:dG x m=some bk){obj:Obj}
  (yW:∀ρ' D',(∀b,DS D l tr h' S b→D' b)→(∀b,DS D l tr h' S b→ρ' b=ρ b)→eE P H0 ρ' D' ⟨w.heap.size,0,0⟩ bk (w.alloc obj))
  (hv:m.v.aR (DS D l tr h' (dg S i))):
  J P H0 D N l bs e h tr h' qE w0 a0 (dg S i) c (iH ρ (ay tr h' i).next ⟨w.heap.size,0,0⟩) (a.put x.dst (real (iH ρ (ay tr h' i).next ⟨w.heap.size,0,0⟩) m.v)) (w.alloc obj):=by
 have hcs:=R.rH j.cut j.closed u.hx u.hsi u.pre;obtain⟨⟨o,f,ho,dY,AK,wP⟩,hst,A0⟩:=R.made u.hx u.hm hb;have hne:bT x.op=false:=by rw[ho];rfl
 rw[hne] at hcs;have hnot:=R.DZ u.hx u.hm hb u.hsi;have cn:=j.made i x m bk u.hx u.hm hb u.hsi;generalize hid:(ay tr h' i).next=id at*
 have sS:(ay tr h' (i+1)).next=id+1:=by rw[hst];simp[hid]
 have hds:∀b,DS D l tr h' (dg S i) b↔DS D l tr h' S b∨b=id:=by
  intro b;rw[jU u.lt,sS,hid];constructor
  ·rintro(hb|hb)
   ·exact .inl hb
   ·exact .inr (by omega)
  ·rintro(hb|rfl)
   ·exact .inl hb
   ·exact .inr (by omega)
 have gQ:∀b,DS D l tr h' S b→iH ρ id ⟨w.heap.size,0,0⟩ b=ρ b:=fun b hb=>jN _ _ (by rintro rfl;exact hnot hb);have hold:∀r,r<w.heap.size→(w.alloc obj).heap[r]?=w.heap[r]?:=by
  intro r hr;show(w.heap.push obj)[r]?=_;rw[Array.getElem?_push,if_neg (by omega)]
 have hsz:(w.alloc obj).heap.size=w.heap.size+1:=by show(w.heap.push obj).size=_;simp
 have P9:id<h'.next:=by have:=R.le_last (i+1);omega
 have T9:h.next≤id:=by have:=R.tM.low i;omega
 refine⟨hcs.1,j.oI u,?_,?_,j.xW (fun _ _ _ _ _ _ _ _ _ hg=>hg),j.vA R u gQ hv,?_⟩
 ·refine⟨?_,j.inv.top,by rw[hsz];have:=j.inv.low;omega,?_,?_⟩
  ·intro b hb;rcases(hds b).1 hb with hb|rfl
   ·exact j.inv.lt b hb
   ·exact P9
  ·intro b y hb hy;rcases(hds b).1 hb with hb|rfl
   ·have:=j.inv.bD b y hb hy;rw[gQ b hb];exact bR this (fun b hb=>(hds b).2 (.inl hb)) gQ (hold _ (gV this))
   ·rw[cn] at hy;cases hy
    rw[bO];exact yW _ _ (fun b hb=>(hds b).2 (.inl hb)) gQ
  ·intro b b' hb hb' AN hw hg;rcases(hds b).1 hb with hb|rfl
   ·rw[gQ b hb];rcases(hds b').1 hb' with hb'|rfl
    ·rw[gQ b' hb'];exact j.inv.apart b b' hb hb' AN hw hg
    ·rw[bO];have:=j.inv.Rz b hb hw;simp only;omega
   ·rcases(hds b').1 hb' with hb'|rfl
    ·rw[gQ b' hb',bO];have:=j.inv.J4 hb' hg;simp only;omega
    ·exact absurd rfl AN
 ·have x0:=j.ext;refine⟨x0.next,?_,by rw[hsz];have:=x0.size;omega,?_,x0.iK,x0.old,?_,x0.tape,x0.os,x0.output⟩
  ·intro b hb;rw[gQ b (.inl hb)];exact x0.bx b hb
  ·intro r hr hf;rw[hold r (by have:=x0.size;omega)];exact x0.frame r hr hf
  ·intro b qm jh;by_cases xL:b=id
   ·subst xL;rw[bO];exact .inl x0.size
   ·rw[jN _ _ xL];exact x0.fresh b qm jh
 ·rw[←j.defers];cases x.dst<;>rfl
end
end Ads
end Go.Proofs.Ytenafeojcgmnhaa
set_option linter.unusedSimpArgs false
set_option linter.unusedVariables false
namespace Go.Proofs.Ytenafeojcgmnhaa
namespace Ads
section
variable {P:Program} {H0:Nat} {D:Dom} {N:Nat} {l:List bq} {bs:List Nat} {e:Env} {h:Heap} {tr:List aK} {e':Env} {h':Heap}
 {qE:cD} {w0:World} {a0:Act} {S:Nat→Bool} {c:Nat} {ρ:cD} {a:Act} {w:World} {i:Nat} {x:bq} {m:aK} {ro:Option Nat} {n:Nat}
def only(e:Env):List Nat→Env
 |[]=>.nil
 |d::ds=>Tr.set (only e ds) d (e.get d)
theorem oL(e:Env)(d:Nat):∀ds:List Nat,(only e ds).get d=if d∈ds then e.get d else .undef
 |[]=>by simp[only,Env.get,Tr.get]
 |x::ds=>by
  show((Tr.set (only e ds) x (e.get x)).get d).getD .undef=_;rw[Tr.bt];by_cases hx:d=x
  ·subst hx;simp
  ·rw[if_neg hx];have:=oL e d ds;unfold Env.get at this;simp only[List.mem_cons,hx,false_or];exact this
def xk(ρ:cD)(N:Nat)(e:Env)(a:Act):Act:={a with tmps:=Array.ofFn (n:=N) fun i=>real ρ (e.get i)}
theorem En{D:Dom}(hh:∀i,N≤i→real ρ (e.get i)=Go.undef)(hd:∀i,(e.get i).aR D):bJ ρ D N e (xk ρ N e a) where
 size:=by simp[xk]
 get:=fun i=>by
  by_cases hi:i<N
  ·simp[xk,Array.getD_eq_getD_getElem?,hi]
  ·rw[hh i (by omega)];simp[xk,Array.getD_eq_getD_getElem?,hi]
 dom:=hd
theorem wJ{op:Op}{Wc:gw}{rs:List bG}(hc:aA P op=some (Wc,rs))(he:bT Wc=true):
  (∀cs b,op≠.select cs b)∧∀y∈op.operands,∃r∈rs,dh y=some r:=by
 have key:∀(xs:List Operand) (rs:List bG),b8 xs=some rs→∀y∈xs,∃r∈rs,dh y=some r:=by
  intro xs;induction xs with
  |nil=>intro rs h y hy;simp at hy
  |cons z xs ih=>
   intro rs h y hy;obtain⟨r,rs',rfl,h1,h2⟩:=di h;rcases List.mem_cons.1 hy with rfl|hy
   ·exact⟨r,by simp,h1⟩
   ·obtain⟨r',hr',h3⟩:=ih rs' h2 y hy;exact⟨r',by simp[hr'],h3⟩
 cases op
 case store t a y=>
  simp only[aA,Option.bind_eq_some_iff] at hc;obtain⟨k,_,hc⟩:=hc;simp only[one,Option.map_eq_some_iff,Prod.mk.injEq] at hc;obtain⟨rs',hr,_,rfl⟩:=hc;exact⟨by simp,fun y hy=>key _ _ hr y (by simpa[Op.operands] using hy)⟩
 case panic y=>
  simp only[aA,one,Option.map_eq_some_iff,Prod.mk.injEq] at hc;obtain⟨rs',hr,_,rfl⟩:=hc;exact⟨by simp,fun y hy=>key _ _ hr y (by simpa[Op.operands] using hy)⟩
 case call k=>
  refine⟨by simp,fun y hy=>?_⟩;simp only[aA] at hc;split at hc
  ·rename_i f hf;simp only[Option.map_eq_some_iff,Prod.mk.injEq] at hc;obtain⟨rs',hr,_,rfl⟩:=hc;exact key _ _ hr y (by simpa[Op.operands,Call.operands,hf] using hy)
  ·rename_i f nm hf;simp only[Option.map_eq_some_iff,Prod.mk.injEq] at hc;obtain⟨rs',hr,_,rfl⟩:=hc;exact key _ _ hr y (by simpa[Op.operands,Call.operands,hf] using hy)
  ·rename_i b hf;have Us:(Op.call k).operands=k.args:=by simp[Op.operands,Call.operands,hf]
   rw[Us] at hy;have hy':y∈k.args.toList:=by simpa using hy
   split at hc
   ·exfalso;repeat' (first
     |(obtain⟨h2,_⟩:=aQ hc;subst h2;simp[bT] at he;done)
     |(simp at hc;done)
     |(split at hc))
   ·exfalso;obtain⟨h2,_⟩:=aQ hc;subst h2;simp[bT] at he
   ·exfalso;obtain⟨h2,_⟩:=aQ hc;subst h2;simp[bT] at he
   ·rename_i s z t u ts hargs eM;rw[hargs] at hy';split at hc
    ·split at hc
     ·simp at hc
     ·split at hc
      ·split at hc
       ·simp at hc
       ·exact key _ _ (aQ hc).2 y hy'
      ·simp at hc
    ·simp at hc
   ·rename_i s z t ts hargs eM;rw[hargs] at hy';split at hc
    ·simp only[Option.bind_eq_some_iff] at hc;obtain⟨size,hsz,hc⟩:=hc;exact key _ _ (aQ hc).2 y hy'
    ·simp at hc
   ·rename_i z t hargs eM;rw[hargs] at hy';split at hc
    ·simp only[Option.bind_eq_some_iff] at hc;obtain⟨u,_,hc⟩:=hc;exact key _ _ (aQ hc).2 y hy'
    ·exfalso;obtain⟨h2,_⟩:=aQ hc;subst h2;simp[bT] at he
    ·simp at hc
   ·rename_i z z2 t ts hargs eM;rw[hargs] at hy';split at hc
    ·split at hc
     ·exact key _ _ (aQ hc).2 y hy'
     ·simp at hc
    ·simp at hc
   ·simp at hc
 case range t x=>
  simp only[aA] at hc;split at hc
  ·exact⟨by simp,fun y hy=>key _ _ (aQ hc).2 y (by simpa[Op.operands] using hy)⟩
  ·simp at hc
 case next it s=>
  cases s with
  |true=>simp[aA] at hc
  |false=>
   simp only[aA] at hc;exact⟨by simp,fun y hy=>key _ _ (aQ hc).2 y (by simpa[Op.operands] using hy)⟩
 case mapUpdate t m k x=>
  simp only[aA] at hc;split at hc
  ·split at hc
   ·exact⟨by simp,fun y hy=>key _ _ (aQ hc).2 y (by simpa[Op.operands] using hy)⟩
   ·exfalso;obtain⟨h2,_⟩:=aQ hc;subst h2;simp[bT] at he
   ·exfalso;obtain⟨h2,_⟩:=aQ hc;subst h2;simp[bT] at he
   ·simp at hc
  ·simp at hc
 case insert t m k x=>
  simp only[aA] at hc;split at hc
  ·split at hc
   ·exact⟨by simp,fun y hy=>key _ _ (aQ hc).2 y (by simpa[Op.operands] using hy)⟩
   ·exfalso;obtain⟨h2,_⟩:=aQ hc;subst h2;simp[bT] at he
   ·exfalso;obtain⟨h2,_⟩:=aQ hc;subst h2;simp[bT] at he
   ·simp at hc
  ·simp at hc
 case unOp u t y=>
  exfalso;cases u<;>simp only[aA] at hc<;>first
   |(obtain⟨h2,_⟩:=aQ hc;subst h2;simp[bT] at he;done)
   |(simp at hc;done)
 case makeMap t r=>
  exfalso;cases r with
  |none=>simp only[aA] at hc;obtain⟨h2,_⟩:=aQ hc;subst h2;simp[bT] at he
  |some r=>simp[aA] at hc
 all_goals (exfalso;simp only[aA] at hc)
 all_goals repeat' (first
  |(simp only[Option.bind_eq_some_iff] at hc;obtain⟨_,_,hc⟩:=hc)
  |(simp only[Option.map_eq_some_iff] at hc;obtain⟨_,_,hc⟩:=hc;simp only[Prod.mk.injEq] at hc;obtain⟨hc,_⟩:=hc;subst hc;simp[bT] at he;done)
  |(obtain⟨h2,_⟩:=aQ hc;subst h2;simp[bT] at he;done)
  |(simp at hc;done)
  |(split at hc))
end
end Ads
end Go.Proofs.Ytenafeojcgmnhaa
set_option linter.unusedSimpArgs false
set_option linter.unusedVariables false
namespace Go.Proofs.Ytenafeojcgmnhaa
namespace Ads
section
variable {P:Program} {H0:Nat} {D:Dom} {N:Nat} {l:List bq} {bs:List Nat} {e:Env} {h:Heap} {tr:List aK} {e':Env} {h':Heap}
 {qE:cD} {w0:World} {a0:Act} {S:Nat→Bool} {c:Nat} {ρ:cD} {a:Act} {w:World} {i:Nat} {x:bq} {m:aK} {ro:Option Nat} {n:Nat}
theorem Fb{d:Option Nat}{a a2:Act}{u v:Value}(hd:uX N d=true)(h2:a2.tmps.size=N)(hp:a2.put d u=a2.put d v):a.put d u=a.put d v:=by
 cases d with
 |none=>rfl
 |some d=>
  have hlt:d<N:=Nat.le_of_ble_eq_true (show Nat.ble (d+1) N=true from hd);have:(a2.tmps.setIfInBounds d u)[d]?=(a2.tmps.setIfInBounds d v)[d]?:=congrArg (fun z:Act=>z.tmps[d]?) hp;simp[h2,hlt] at this;rw[this]
theorem put_defers{d:Option Nat}{a:Act}{v:Value}:(a.put d v).defers=a.defers:=by cases d<;>rfl
theorem Dh{o:Oper}{a a2:Act}{w:World}{next:Act→World→Prop}{Q:Exit→Act→World→Prop}(hd:uX N o.dst=true)(h2:a2.tmps.size=N)
  (hs:Oper.semAt (FW ro).round a.eval o=Oper.semAt (FW ro).round a2.eval o)
  (h:o.wpIn (FW ro) n P a2 w (fun z w'=>∃v,z=a2.put o.dst v∧next (a.put o.dst v) w') (fun _ _ _=>False)):o.wpIn (FW ro) n P a w next Q:=by
 refine⟨fun _ _=>trivial,?_⟩;rw[hs];have h:=h.2;generalize(Oper.semAt (FW ro).round a2.eval o).run P w=r at h;have key:∀(v:Value) (w':World),(∃v',a2.put o.dst v=a2.put o.dst v'∧next (a.put o.dst v') w')→next (a.put o.dst v) w':=by
  rintro v w' ⟨v',h1,h3⟩;rw[Fb (a:=a) hd h2 h1];exact h3
 cases r with
 |ok x w'=>
  cases x<;>simp only[Oper.uponIn] at h⊢
  case value v=>exact key _ _ h
  case skip=>exact key _ _ h
  case defer d=>
   exfalso;obtain⟨v,h1,_⟩:=h;have:=congrArg Act.defers h1;rw[put_defers,put_defers] at this;have:=congrArg List.length this;simp at this
  case enter f args=>
   exact⟨h.1,CallsIn.mono h.2 (fun e w'' he=>by
    cases e with
    |returned v=>exact key _ _ he
    |panicked c=>exact he.elim
    |outgrown=>obtain⟨_,_,q⟩:=he;exact q.elim)⟩
  case row row args=>exact⟨h.1,RowsIn.mono h.2 (fun _ _ he=>key _ _ he)⟩
  case round l f tmps as bd=>
   exact⟨h.1,RoundIn.mono h.2 (fun e w'' he=>by
    cases e with
    |returned v=>exact key _ _ he
    |panicked c=>exact he.elim
    |outgrown=>obtain⟨_,_,q⟩:=he;exact q.elim)⟩
  all_goals (first|exact h.elim|skip)
 |halt x w'=>
  cases x<;>simp only[Oper.uponIn] at h
def IX(D:Dom)(l:List bq)(h:Heap)(tr:List aK)(h':Heap)(S:Nat→Bool)(i:Nat):Dom:=fun b=>
 DS D l tr h' S b∧grow D h.next (ay tr h' i).next b
theorem LJ(R:Rg P H0 D N l bs e h tr e' h'){b:Nat}(hb:DS D l tr h' S b)(hlt:b<(ay tr h' i).next):IX D l h tr h' S i b:=by
 refine⟨hb,?_⟩;rcases hb with hb|⟨q,_,_,h1,_⟩
 ·exact .inl hb
 ·exact .inr ⟨Nat.le_trans (R.tM.low q) h1,hlt⟩
theorem oy(R:Rg P H0 D N l bs e h tr e' h'){b:Nat}(hb:IX D l h tr h' S i b):b<(ay tr h' i).next:=by
 rcases hb.2 with hd|hd
 ·exact Nat.lt_of_lt_of_le (R.Jf b hd) (R.tM.low i)
 ·exact hd.2
theorem J.before(R:Rg P H0 D N l bs e h tr e' h')(j:J P H0 D N l bs e h tr h' qE w0 a0 S c ρ a w)(u:Up bs l tr S i x m)(he:bT x.op=true):
  (∀b,b<(ay tr h' i).next→(ay tr h' i).get b=(cr l tr h' c).get b)∧Inv P H0 ρ (IX D l h tr h' S i) (ay tr h' i) w:=by
 have hcs:=R.rH j.cut j.closed u.hx u.hsi u.pre;have hg:∀b,b<(ay tr h' i).next→(ay tr h' i).get b=(cr l tr h' c).get b:=by
  intro b hb;rw[R.Eh j.cut (hcs.2 he) b,R.Ei hb]
 refine⟨hg,fun b hb=>oy R hb,fun b hb=>R.tM.top i b hb,j.inv.low,?_,?_⟩
 ·intro b y hb hy;have hlt:=oy R hb;have h1:=j.inv.bD b y hb.1 (by rw[←hg b hlt];exact hy);obtain⟨IG,wv,av,iv,_⟩:=R.tM.run i;exact wF h1 (iv.bD b y hb.2 hy)
 ·intro b b' hb hb' hne hw hx;exact j.inv.apart b b' hb.1 hb'.1 hne (by rw[←Heap.jy (hg b (oy R hb))];exact hw) (by rw[←hg b' (oy R hb')];exact hx)
theorem J.effect(R:Rg P H0 D N l bs e h tr e' h')(j:J P H0 D N l bs e h tr h' qE w0 a0 S c ρ a w)(u:Up bs l tr S i x m)(he:bT x.op=true)
  {o:Oper}(hc:aA P o.op=some (x.op,x.args))(lG:x.dst=o.dst)(wP:m.vals=x.args.map (cN l tr i e).ev)
  (hop:um P H0 x.op m.vals (ay tr h' i) m.v (ay tr h' (i+1))){next:Act→World→Prop}{Q:Exit→Act→World→Prop}
  (hk:∀ρ' w',J P H0 D N l bs e h tr h' qE w0 a0 (dg S i) (i+1) ρ' (a.put x.dst (real ρ' m.v)) w'→next (a.put x.dst (real ρ' m.v)) w'):o.wpIn (FW ro) n P a w next Q:=by
 have hcs:=R.rH j.cut j.closed u.hx u.hsi u.pre;rw[he] at hcs;simp only[cond_true] at hcs;have GH:=hcs.2 trivial;obtain⟨hg,hinv⟩:=j.before R u he;have hmono:=R.tM.mono i (i+1) (by omega);obtain⟨IG,wv,av,iv,ev⟩:=R.tM.run i;have Lh:∀d,d∈ig x.args→(fP S l tr e).get d=(cN l tr i e).get d:=fun d hd=>j.slots R u (List.mem_append_right _ hd);have wA:bJ ρ (IX D l h tr h' S i) N (only (fP S l tr e) (ig x.args)) (xk ρ N (only (fP S l tr e) (ig x.args)) a):=by
  refine En (fun d hd=>?_) (fun d=>?_)
  ·rw[oL];split
   ·rw[←j.env.get d];simp[Array.getD_eq_getD_getElem?,j.env.size,Nat.not_lt.2 hd]
   ·exact fZ ρ
  ·rw[oL];split
   ·rename_i hmem;refine jI (j.env.dom d) ?_;rw[Lh d hmem];exact ev.dom d
   ·simp[AV.undef,AV.aR,bg]
 have mU:x.args.map (only (fP S l tr e) (ig x.args)).ev=m.vals:=by
  rw[wP];refine List.map_congr_left fun r hr=>?_;cases r with
  |c v=>rfl
  |t d=>
   show(only _ _).get d=(cN l tr i e).get d;rw[oL,if_pos (kM hr)];exact Lh d (kM hr)
 obtain⟨hsel,EM⟩:=wJ hc he;have hex:execOp a.eval o=execOp (xk ρ N (only (fP S l tr e) (ig x.args)) a).eval o:=by
  refine execOp_congr o hsel ?_;intro y hy;obtain⟨r,hr,V3⟩:=EM y hy;rw[(aF j.env V3).1,(aF wA V3).1];cases r with
  |c v=>rfl
  |t d=>
   show real ρ ((fP S l tr e).get d)=real ρ ((only _ _).get d);rw[oL,if_pos (kM hr)]
 refine Dh (N:=N) (by rw[←lG];exact tI R.ok u.hx) wA.size (by rw[vW hc,vW hc];exact hex) ?_;refine hop.sem o x.args hc ρ _ w _ N _ ro n hinv wA mU _ _ ?_;intro pn w1 i1 x1 SV;refine⟨real pn m.v,rfl,?_⟩
 let iY:cD:=fun b=>if(ay tr h' i).next≤b∧b<(ay tr h' (i+1)).next then pn b else ρ b
 have KZ:∀b,(ay tr h' i).next≤b→b<(ay tr h' (i+1)).next→iY b=pn b:=fun b h1 h2=>if_pos ⟨h1,h2⟩
 have K0:∀b,¬((ay tr h' i).next≤b∧b<(ay tr h' (i+1)).next)→iY b=ρ b:=fun b h1=>if_neg h1;have Gz:∀b,DS D l tr h' S b→¬((ay tr h' i).next≤b∧b<(ay tr h' (i+1)).next):=by
  rintro b (hb|⟨q,hq,hql,h1,h2⟩) ⟨h3,h4⟩
  ·have:=R.Jf b hb;have:=R.tM.low i;omega
  ·by_cases hqi:q=i
   ·subst hqi;rw[u.hsi] at hq;simp at hq
   ·by_cases hlt:q<i
    ·have:=R.tM.mono (q+1) i (by omega);omega
    ·have:=R.tM.mono (i+1) q (by omega);omega
 have gQ:∀b,DS D l tr h' S b→iY b=ρ b:=fun b hb=>K0 b (Gz b hb);have ur:∀b,grow (IX D l h tr h' S i) (ay tr h' i).next (ay tr h' (i+1)).next b→iY b=pn b:=by
  rintro b (hb|hb)
  ·rw[gQ b hb.1,x1.bx b hb]
  ·exact KZ b hb.1 hb.2
 have hval:real iY m.v=real pn m.v:=cj ur _ SV;have hsub:∀b,grow (IX D l h tr h' S i) (ay tr h' i).next (ay tr h' (i+1)).next b→DS D l tr h' (dg S i) b:=by
  rintro b (hb|hb)
  ·exact(jU u.lt b).2 (.inl hb.1)
  ·exact(jU u.lt b).2 (.inr hb)
 have hsplit:∀b,DS D l tr h' (dg S i) b→(grow (IX D l h tr h' S i) (ay tr h' i).next (ay tr h' (i+1)).next b∧b<(ay tr h' (i+1)).next)∨(DS D l tr h' S b∧(ay tr h' (i+1)).next≤b):=by
  intro b hb;rcases(jU u.lt b).1 hb with hb|hb
  ·have:=Gz b hb;by_cases hlt:b<(ay tr h' i).next
   ·exact .inl ⟨.inl (LJ R hb hlt),by omega⟩
   ·exact .inr ⟨hb,by omega⟩
  ·exact .inl ⟨.inr hb,hb.2⟩
 have GN:∀b,b<(ay tr h' (i+1)).next→(cr l tr h' (i+1)).get b=(ay tr h' (i+1)).get b:=fun b hb=>R.Ei hb
 have AT:∀b,(ay tr h' (i+1)).next≤b→(cr l tr h' (i+1)).get b=(cr l tr h' c).get b:=by
  intro b hb;rw[R.Eh j.cut GH b,R.Rv u.hx he hb]
 have UI:∀b,b<(ay tr h' (i+1)).next→(cr l tr h' (i+1)).wr b=(ay tr h' (i+1)).wr b:=fun b hb=>Heap.jy (GN b hb)
 have hkeep:∀b,DS D l tr h' S b→(ay tr h' (i+1)).next≤b→(cr l tr h' c).get b≠none→∀b0,IX D l h tr h' S i b0→(ay tr h' i).wr b0=true→(ρ b0).bD≠(ρ b).bD:=by
  intro b hb hlt SM b0 hb0 hw0;have:=oy R hb0;exact j.inv.apart b0 b hb0.1 hb (by omega) (by rw[←Heap.jy (hg b0 this)];exact hw0) SM
 have kK:=j.oI u;have Uc:J P H0 D N l bs e h tr h' qE w0 a0 (dg S i) (i+1) iY (a.put x.dst (real iY m.v)) w1:=by
  refine⟨hcs.1,kK,?_,?_,j.xW ?_,j.vA R u gQ (cJ hsub _ SV),by rw[←j.defers];exact put_defers⟩
  ·refine⟨?_,fun b hb=>R.Lr hb,i1.low,?_,?_⟩
   ·intro b hb;rcases hsplit b hb with hb|hb
    ·exact Nat.lt_of_lt_of_le hb.2 (R.le_last _)
    ·exact j.inv.lt b hb.1
   ·intro b y hb hy;rcases hsplit b hb with hb|hb
    ·rw[GN b hb.2] at hy;rw[ur b hb.1];exact bR (i1.bD b y hb.1 hy) hsub ur rfl
    ·rw[AT b hb.2] at hy;rw[gQ b hb.1];have Co:=j.inv.bD b y hb.1 hy;refine bR Co (fun b hb=>(jU u.lt b).2 (.inl hb)) gQ ?_;exact x1.frame _ (gV Co) (hkeep b hb.1 hb.2 (by rw[hy];simp))
   ·intro b b' hb hb' hne hw hx;rcases hsplit b hb with hb|hb<;>rcases hsplit b' hb' with hb'|hb'
    ·rw[ur b hb.1,ur b' hb'.1];exact i1.apart b b' hb.1 hb'.1 hne (by rw[←UI b hb.2];exact hw) (by rw[←GN b' hb'.2];exact hx)
    ·rw[ur b hb.1,gQ b' hb'.1];rw[AT b' hb'.2] at hx;rcases hb.1 with hd|hd
     ·rw[x1.bx b hd];have SW:(ay tr h' (i+1)).wr b=true:=by rw[←UI b hb.2];exact hw
      have:=(x1.old b (oy R hd) (Heap.eH SW)).2;exact hkeep b' hb'.1 hb'.2 hx b hd (this SW)
     ·rcases x1.fresh b hd.1 hd.2 with hf|⟨b0,k1,k2,k3⟩
      ·have:=j.inv.J4 hb'.1 hx;omega
      ·rw[←k3];exact hkeep b' hb'.1 hb'.2 hx b0 k1 k2
    ·rw[gQ b hb.1,ur b' hb'.1];rw[Heap.jy (AT b hb.2)] at hw;rw[GN b' hb'.2] at hx;rcases hb'.1 with hd|hd
     ·rw[x1.bx b' hd];have hlt:=oy R hd;have:=(x1.old b' hlt hx).1;rw[hg b' hlt] at this;exact j.inv.apart b b' hb.1 hd.1 hne hw this
     ·rcases x1.fresh b' hd.1 hd.2 with hf|⟨b0,k1,k2,k3⟩
      ·have:=j.inv.Rz b hb.1 hw;omega
      ·rw[←k3];exact(hkeep b hb.1 hb.2 (Heap.eH hw) b0 k1 k2).symm
    ·rw[gQ b hb.1,gQ b' hb'.1];rw[Heap.jy (AT b hb.2)] at hw;rw[AT b' hb'.2] at hx;exact j.inv.apart b b' hb.1 hb'.1 hne hw hx
  ·have x0:=j.ext;have ko:=R.tM.low i;have Gy:∀b,DS D l tr h' S b→b<h.next→D b:=by
    rintro b (hb|⟨q,_,_,h1,_⟩) hlt
    ·exact hb
    ·have:=R.tM.low q;omega
   have place:∀b,DS D l tr h' S b→(cr l tr h' c).wr b=true→w0.heap.size≤(ρ b).bD∨∃b0,D b0∧h.wr b0=true∧(qE b0).bD=(ρ b).bD:=by
    intro b hb hw;by_cases hlt:b<h.next
    ·have hd:=Gy b hb hlt;have:=(x0.old b hlt (Heap.eH hw)).2;exact .inr ⟨b,hd,this hw,by rw[x0.bx b hd]⟩
    ·exact x0.fresh b (by omega) (j.inv.lt b hb)
   have place':∀b,IX D l h tr h' S i b→(ay tr h' i).wr b=true→w0.heap.size≤(ρ b).bD∨∃b0,D b0∧h.wr b0=true∧(qE b0).bD=(ρ b).bD:=
    fun b hb hw=>place b hb.1 (by rw[←Heap.jy (hg b (oy R hb))];exact hw)
   refine⟨x0.next,?_,Nat.le_trans x0.size x1.size,?_,?_,?_,?_,x1.tape.trans x0.tape,x1.os.trans x0.os,x1.output.trans x0.output⟩
   ·intro b hb;rw[gQ b (.inl hb)];exact x0.bx b hb
   ·intro r hr hf;rw[x1.frame r (Nat.lt_of_lt_of_le hr x0.size),x0.frame r hr hf];intro b hb hw;rcases place' b hb hw with hp|⟨b0,k1,k2,k3⟩
    ·omega
    ·rw[←k3];exact hf b0 k1 k2
   ·intro b hb hd;have hlt:b<(ay tr h' i).next:=by omega
    rw[GN b (by omega),x1.iK b hlt (fun hin=>hd (Gy b hin.1 hb)),hg b hlt];exact x0.iK b hb hd
   ·intro b hb hn;have hlt:b<(ay tr h' i).next:=by omega
    rw[GN b (by omega)] at hn;have k1:=x1.old b hlt hn;have k2:=x0.old b hb (by rw[←hg b hlt];exact k1.1);refine⟨k2.1,?_⟩;intro hw;rw[UI b (by omega)] at hw;exact k2.2 (by rw[←Heap.jy (hg b hlt)];exact k1.2 hw)
   ·intro b qm jh;by_cases hnew:(ay tr h' i).next≤b∧b<(ay tr h' (i+1)).next
    ·rw[KZ b hnew.1 hnew.2];rcases x1.fresh b hnew.1 hnew.2 with hf|⟨b0,k1,k2,k3⟩
     ·exact .inl (Nat.le_trans x0.size hf)
     ·rw[←k3];exact place' b0 k1 k2
    ·rw[K0 b hnew];exact x0.fresh b qm jh
  ·intro k y q bk hy hq hb hs hki PX;by_cases hlt:(ay tr h' k).next<(ay tr h' i).next
   ·rw[GN _ (by omega),x1.iK _ hlt (fun hin=>R.DZ hy hq hb hs hin.1),hg _ hlt];exact PX
   ·have y6:=R.A6 hy hq hb (i:=k+1) (by omega);have:(ay tr h' (i+1)).next≤(ay tr h' k).next:=by
     rcases Nat.lt_or_ge k i with hlt'|hge
     ·have:=R.A6 hy hq hb hlt';omega
     ·exact R.tM.mono (i+1) k (by omega)
    rw[AT _ this];exact PX
 have:=hk iY w1 Uc;rw[hval] at this;rw[←lG];exact this
end
end Ads
end Go.Proofs.Ytenafeojcgmnhaa
