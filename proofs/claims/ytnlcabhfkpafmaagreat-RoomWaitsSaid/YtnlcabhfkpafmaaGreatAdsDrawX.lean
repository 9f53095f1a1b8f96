/-
  Regions that draw their order: what a trace in the text's order says of places and stores.
  Regions that draw their order: a run in the text's order exists, and what it shows of numbers.
  Regions that draw their order: the heap that all orders work on; what holds when some operations are done.
  Regions that draw their order: one operation more is done; those that change no heap.
  Regions that draw their order: an effect is done.
  Regions that draw their order: an effect is done, in any order.
-/
import Derived.Test.YtnlcabhfkpafmaaGreatAdsSem
set_option linter.unusedSimpArgs false
set_option linter.unusedVariables false
namespace Go.Proofs.YtnlcabhfkpafmaaGreat
namespace Ads
def au(tr:List aJ)(h':Heap)(i:Nat):Heap:=dW (tr.drop i) h'
def cR:List bu→List aJ→Nat→Env→Env
 |x::l,m::tr,i+1,e=>cR l tr i (e.put x.dst m.v)
 |_,_,_,e=>e
def fH:(Nat→Bool)→List bu→List aJ→Env→Env
 |S,x::l,m::tr,e=>fH (fun j=>S (j+1)) l tr (cond (S 0) (e.put x.dst m.v) e)
 |_,_,_,e=>e
section
variable {P:Program} {H0:Nat}
theorem OT.length:∀{l:List bu} {e:Env} {h:Heap} {tr:List aJ} {e':Env} {h':Heap},OT P H0 l e h tr e' h'→tr.length=l.length
 |[],_,_,tr,_,_,ho=>by cases tr<;>simp_all[OT]
 |x::l,_,_,tr,_,_,ho=>by
  cases tr with
  |nil=>simp[OT] at ho
  |cons m tr=>
   simp only[OT] at ho;rcases ho.2.2 with⟨_,_,_,hr⟩|⟨_,_,h1,_,hr⟩<;>simp[hr.length]
theorem OT.zero{l:List bu}{e:Env}{h:Heap}{tr:List aJ}{e':Env}{h':Heap}(ho:OT P H0 l e h tr e' h'):au tr h' 0=h:=by
 cases l with
 |nil=>cases tr<;>simp_all[OT,au,dW]
 |cons x l=>cases tr with
  |nil=>simp[OT] at ho
  |cons m tr=>simp only[OT] at ho;simp[au,dW,ho.1]
theorem OT.at:∀{l:List bu} {e:Env} {h:Heap} {tr:List aJ} {e':Env} {h':Heap},OT P H0 l e h tr e' h'→∀{i:Nat} {x:bu},l[i]?=some x→
  ∃m,tr[i]?=some m∧m.h=au tr h' i∧m.vals=x.args.map (cR l tr i e).ev∧
   ((m.on=false∧bN x (cR l tr i e)=false∧m.v=.undef∧au tr h' (i+1)=au tr h' i)∨
    (m.on=true∧bN x (cR l tr i e)=true∧uS P H0 x.op m.vals (au tr h' i) m.v (au tr h' (i+1))))
 |[],_,_,_,_,_,_,i,x,hx=>by simp at hx
 |y::l,e,h,tr,e',h',ho,i,x,hx=>by
  cases tr with
  |nil=>simp[OT] at ho
  |cons m tr=>
   simp only[OT] at ho;cases i with
   |zero=>
    simp at hx;subst hx;refine⟨m,rfl,rfl,by simpa[cR] using ho.2.1,?_⟩;rcases ho.2.2 with⟨h1,h2,h3,hr⟩|⟨h1,h2,h4,h3,hr⟩
    ·refine .inl ⟨h1,by simpa[cR] using h2,h3,?_⟩;show au tr h' 0=m.h;rw[hr.zero,ho.1]
    ·refine .inr ⟨h1,by simpa[cR] using h2,?_⟩;show uS P H0 y.op m.vals m.h m.v (au tr h' 0);rw[hr.zero,ho.1];exact h3
   |succ i=>
    simp at hx;rcases ho.2.2 with⟨h1,h2,h3,hr⟩|⟨h1,h2,h4,h3,hr⟩
    ·rw[←h3] at hr;obtain⟨m',g1,g2,g3,g4⟩:=hr.at hx;exact⟨m',by simpa using g1,by simpa[au] using g2,by simpa[cR] using g3,by simpa[cR,au] using g4⟩
    ·obtain⟨m',g1,g2,g3,g4⟩:=hr.at hx;exact⟨m',by simpa using g1,by simpa[au] using g2,by simpa[cR] using g3,by simpa[cR,au] using g4⟩
theorem OT.last{l:List bu}{e:Env}{h:Heap}{tr:List aJ}{e':Env}{h':Heap}(ho:OT P H0 l e h tr e' h'){i:Nat}(hi:l.length≤i):au tr h' i=h':=by
 unfold au;rw[List.drop_eq_nil_of_le (by rw[ho.length];exact hi)];rfl
theorem OT.take:∀{l:List bu} {e:Env} {h:Heap} {tr:List aJ} {e':Env} {h':Heap},OT P H0 l e h tr e' h'→∀i:Nat,
  OT P H0 (l.take i) e h (tr.take i) (cR l tr i e) (au tr h' i)
 |[],e,h,tr,e',h',ho,i=>by
  cases tr with
  |cons _ _=>simp[OT] at ho
  |nil=>simp only[OT] at ho;obtain⟨rfl,rfl⟩:=ho;cases i<;>simp[OT,cR,au,dW]
 |y::l,e,h,tr,e',h',ho,i=>by
  cases tr with
  |nil=>simp[OT] at ho
  |cons m tr=>
   cases i with
   |zero=>
    have:=ho.zero;simp[OT,cR,this]
   |succ i=>
    simp only[OT] at ho;simp only[List.take_succ_cons,OT,cR];refine⟨ho.1,ho.2.1,?_⟩;rcases ho.2.2 with⟨h1,h2,h3,hr⟩|⟨h1,h2,h4,h3,hr⟩
    ·refine .inl ⟨h1,h2,h3,?_⟩;have:=hr.take i;rw[h3];simpa[au] using this
    ·refine .inr ⟨h1,h2,h4,h3,?_⟩;have:=hr.take i;simpa[au] using this
theorem tQ:∀{l:List bu} {e:Env} {h:Heap} {tr:List aJ} {e':Env} {h':Heap},OT P H0 l e h tr e' h'→cR l tr l.length e=e'
 |[],e,h,tr,e',h',ho=>by cases tr<;>simp_all[OT,cR]
 |y::l,e,h,tr,e',h',ho=>by
  cases tr with
  |nil=>simp[OT] at ho
  |cons m tr=>
   simp only[OT] at ho;simp only[List.length_cons,cR];rcases ho.2.2 with⟨h1,h2,h3,hr⟩|⟨h1,h2,h4,h3,hr⟩
   ·rw[h3];exact tQ hr
   ·exact tQ hr
theorem gw{e:Env}{d:Option Nat}{v:AV}{t:Nat}(h:d≠some t):(e.put d v).get t=e.get t:=by rw[eN,if_neg h]
theorem nu:∀(l:List bu) (tr:List aJ) (S:Nat→Bool) (i:Nat) (d:Nat) (e1 e2:Env),e1.get d=e2.get d→tr.length=l.length→
  (∀j x,l[j]?=some x→x.dst=some d→S j=decide (j<i))→(fH S l tr e1).get d=(cR l tr i e2).get d
 |[],tr,S,i,d,e1,e2,he,hl,hs=>by cases tr<;>simp_all[fH,cR]
 |x::l,[],S,i,d,e1,e2,he,hl,hs=>by simp at hl
 |x::l,m::tr,S,i,d,e1,e2,he,hl,hs=>by
  simp only[fH];cases i with
  |zero=>
   have h0:(cond (S 0) (e1.put x.dst m.v) e1).get d=e2.get d:=by
    by_cases hx:x.dst=some d
    ·have:=hs 0 x rfl hx;simp at this;rw[this];exact he
    ·cases S 0
     ·exact he
     ·simp only[cond_true];rw[gw hx];exact he
   have:=nu l tr (fun j=>S (j+1)) 0 d _ e2 h0 (by simpa using hl) (fun j y hy hd=>by
    have:=hs (j+1) y (by simpa using hy) hd;simpa using this)
   rw[this];cases l<;>cases tr<;>simp[cR]
  |succ i=>
   simp only[cR];refine nu l tr (fun j=>S (j+1)) i d _ _ ?_ (by simpa using hl) (fun j y hy hd=>by
    have:=hs (j+1) y (by simpa using hy) hd;simpa using this)
   by_cases hx:x.dst=some d
   ·have:=hs 0 x rfl hx;simp at this;rw[this];simp only[cond_true];rw[eN,eN,if_pos hx,if_pos hx]
   ·rw[gw hx];cases S 0
    ·exact he
    ·simp only[cond_true];rw[gw hx];exact he
theorem uA:∀(l:List bu) (tr:List aJ) (S S':Nat→Bool) (d:Nat) (e1 e2:Env),e1.get d=e2.get d→tr.length=l.length→
  (∀j x,l[j]?=some x→x.dst=some d→S j=S' j)→(fH S l tr e1).get d=(fH S' l tr e2).get d
 |[],tr,S,S',d,e1,e2,he,hl,hs=>by cases tr<;>simp_all[fH]
 |x::l,[],S,S',d,e1,e2,he,hl,hs=>by simp at hl
 |x::l,m::tr,S,S',d,e1,e2,he,hl,hs=>by
  simp only[fH];refine uA l tr _ _ d _ _ ?_ (by simpa using hl) (fun j y hy hd=>hs (j+1) y (by simpa using hy) hd);by_cases hx:x.dst=some d
  ·rw[hs 0 x rfl hx];cases S' 0
   ·exact he
   ·simp only[cond_true];rw[eN,eN,if_pos hx,if_pos hx]
  ·cases S 0<;>cases S' 0<;>simp only[cond_true,cond_false,gw hx]<;>exact he
theorem yB:∀(l:List bu) (tr:List aJ) (S S':Nat→Bool) (i:Nat) (x:bu) (m:aJ) (e:Env) (d:Nat),tr.length=l.length→l[i]?=some x→tr[i]?=some m→
  (∀j,S' j=(S j||decide (j=i)))→S i=false→(∀j y,i<j→l[j]?=some y→x.dst=some d→y.dst=some d→S j=false)→
  (fH S' l tr e).get d=((fH S l tr e).put x.dst m.v).get d
 |[],tr,S,S',i,x,m,e,d,hl,hx,hm,hs,hsi,EM=>by simp at hx
 |y::l,[],S,S',i,x,m,e,d,hl,hx,hm,hs,hsi,EM=>by simp at hl
 |y::l,n::tr,S,S',i,x,m,e,d,hl,hx,hm,hs,hsi,EM=>by
  simp only[fH];cases i with
  |zero=>
   simp at hx hm;subst hx;subst hm;rw[hs 0,hsi];simp only[decide_true,Bool.or_true,cond_true,cond_false];by_cases hd:y.dst=some d
   ·rw[eN,if_pos hd];have:(fH (fun j=>S' (j+1)) l tr (e.put y.dst n.v)).get d=(cR l tr 0 (e.put y.dst n.v)).get d:=by
     refine nu l tr _ 0 d _ _ rfl (by simpa using hl) (fun j z hz Xk=>?_);rw[hs (j+1),EM (j+1) z (by omega) (by simpa using hz) hd Xk];simp
    rw[this];have:cR l tr 0 (e.put y.dst n.v)=e.put y.dst n.v:=by cases l<;>cases tr<;>simp[cR]
    rw[this,eN,if_pos hd]
   ·rw[gw hd];refine uA l tr _ _ d _ _ (gw hd) (by simpa using hl) (fun j z hz Xk=>?_);rw[hs (j+1)];simp
  |succ i=>
   simp at hx hm;have h0:S' 0=S 0:=by rw[hs 0];simp
   rw[h0];refine yB l tr _ _ i x m _ d (by simpa using hl) hx hm (fun j=>?_) hsi (fun j z hj hz Xj Xk=>EM (j+1) z (by omega) (by simpa using hz) Xj Xk);rw[hs (j+1)];simp
def uAt(l:List bu)(tr:List aJ)(h':Heap)(c:Nat):Heap:=cC l tr h' c
theorem rY:∀(l:List bu) (tr:List aJ) (t t':Tr ck) (b:Nat),t.get b=t'.get b→(fT l tr t).get b=(fT l tr t').get b
 |[],tr,t,t',b,h=>by cases tr<;>simpa[fT] using h
 |x::l,[],t,t',b,h=>by simpa[fT] using h
 |x::l,m::tr,t,t',b,h=>by
  simp only[fT];split
  ·refine rY l tr _ _ b ?_;rw[Tr.bx,Tr.bx,h]
  ·exact rY l tr _ _ b h
theorem vn:∀(l:List bu) (tr:List aJ) (t:Tr ck) (b:Nat),(∀(j:Nat) (x:bu) (m:aJ),l[j]?=some x→tr[j]?=some m→dS x m≠none→m.h.next≠b)→
  (fT l tr t).get b=t.get b
 |[],tr,t,b,h=>by cases tr<;>simp[fT]
 |x::l,[],t,b,h=>by simp[fT]
 |x::l,m::tr,t,b,h=>by
  have ht:=fun t=>vn l tr t b (fun j y n hy hn=>h (j+1) y n (by simpa using hy) (by simpa using hn));simp only[fT];split
  ·rename_i bk hb;rw[ht,Tr.bx,if_neg];intro e;exact h 0 x m rfl rfl (by rw[hb];simp) e.symm
  ·exact ht t
end
end Ads
end Go.Proofs.YtnlcabhfkpafmaaGreat
set_option linter.unusedSimpArgs false
set_option linter.unusedVariables false
namespace Go.Proofs.YtnlcabhfkpafmaaGreat
namespace Ads
section
variable {P:Program} {H0:Nat} {ro:Option Nat} {n:Nat}
theorem zn(ro:Option Nat)(n:Nat):(FW ro).room n:=fun _ h=>by simp[FW,Fence.wide] at h
theorem Cv{o:Oper}{a:Act}{w:World}{next:Act→World→Prop}{Q:Exit→Act→World→Prop}(h:o.wpIn (FW ro) n P a w next Q):
  (∃a' w',next a' w')∨∃ex a' w',Q ex a' w':=by
 have h:=h.2;generalize(o.semAt (FW ro).round a.eval).run P w=r at h;cases r with
 |ok x w'=>
  cases x<;>simp only[Oper.uponIn] at h
  case value v=>exact .inl ⟨_,_,h⟩
  case skip=>exact .inl ⟨_,_,h⟩
  case defer d=>exact .inl ⟨_,_,h⟩
  case enter f args=>
   obtain⟨e,w'',fr,hr,_⟩:=h.2.2 [] (zn _ _);cases e with
   |returned v=>exact .inl ⟨_,_,hr⟩
   |panicked c=>exact .inr ⟨_,_,_,hr⟩
   |outgrown=>obtain⟨a1,w1,hq⟩:=hr;exact .inr ⟨_,_,_,hq⟩
  case row row args=>
   obtain⟨v,w'',hr,_⟩:=h.2 (Frame.ofRow P row args .normal) [] (zn _ _);exact .inl ⟨_,_,hr⟩
  case round l f tmps as bd=>
   obtain⟨e,w'',hr,_⟩:=h.2.2 (Frame.ofRow P "" #[] .normal) [] (zn _ _);cases e with
   |returned v=>exact .inl ⟨_,_,hr⟩
   |panicked c=>exact .inr ⟨_,_,_,hr⟩
   |outgrown=>obtain⟨a1,w1,hq⟩:=hr;exact .inr ⟨_,_,_,hq⟩
  all_goals (first|exact h.elim|skip)
 |halt x w'=>
  cases x<;>simp only[Oper.uponIn] at h
  case panic v=>exact .inr ⟨_,_,_,h⟩
  all_goals (first|exact h.elim|skip)
theorem kR{ops:Array Oper}{Q:Exit→Act→World→Prop}:∀{os:List Oper} {a:Act} {w:World},wpListIn (FW ro) n P ops Q os a w→∃ex a' w',Q ex a' w'
 |[],a,w,h=>⟨_,_,_,h⟩
 |o::os,a,w,h=>by
  unfold wpListIn at h;split at h
  ·rcases Cv h with⟨a',w',h'⟩|h'
   ·exact kR h'
   ·exact h'
  ·exact kR h.2
theorem wJ{N:Nat}:∀{l:List bu} (i:Nat),de N l=true→de N (l.take i)=true
 |[],i,h=>by simp[de]
 |x::l,0,h=>by simp[de]
 |x::l,i+1,h=>by
  simp only[de,List.take_succ_cons,Bool.and_eq_true] at h⊢;exact⟨h.1,wJ i h.2⟩
theorem wI{N:Nat}:∀{l:List bu} (i:Nat),de N l=true→de N (l.drop i)=true
 |[],i,h=>by simp[de]
 |x::l,0,h=>by simpa using h
 |x::l,i+1,h=>by
  simp only[de,Bool.and_eq_true] at h;simpa using wI i h.2
theorem ug{N:Nat}:∀{l:List bu} {i:Nat} {x:bu},de N l=true→l[i]?=some x→vK N x.dst=true
 |[],i,x,h,hx=>by simp at hx
 |y::l,0,x,h,hx=>by simp only[de,Bool.and_eq_true] at h;simp at hx;subst hx;exact h.1
 |y::l,i+1,x,h,hx=>by simp only[de,Bool.and_eq_true] at h;simp at hx;exact ug h.2 hx
theorem OT.tw{l:List bu}{e:Env}{h:Heap}{tr:List aJ}{e':Env}{h':Heap}(ho:OT P H0 l e h tr e' h'){ops:Array Oper}{os:List Oper}
  (hos:os.map (bF P ops)=l){N:Nat}(hok:de N l=true){ρ:cI}{D:Dom}{w:World}{a:Act}(hi:Inv P H0 ρ D h w)(he:bI ρ D N e a)(i:Nat):
  ∃ρ' w' a',Inv P H0 ρ' (grow D h.next (au tr h' i).next) (au tr h' i) w'∧bI ρ' (grow D h.next (au tr h' i).next) N (cR l tr i e) a'∧h.next≤(au tr h' i).next:=by
 have:=ox (ro:=none) (n:=0) (ho.take i) (ops:=ops) (os:=os.take i) (by rw[List.map_take,hos]) (wJ i hok) hi he
  (Q:=fun _ a' w'=>∃ρ',Inv P H0 ρ' (grow D h.next (au tr h' i).next) (au tr h' i) w'∧bI ρ' (grow D h.next (au tr h' i).next) N (cR l tr i e) a'∧h.next≤(au tr h' i).next)
  (fun ρ' w' a' g1 g2 g3 g4=>⟨ρ',g1,g3,g2.next⟩)
 obtain⟨_,a',w',ρ',g⟩:=kR this;exact⟨ρ',w',a',g⟩
theorem OT.drop:∀{l:List bu} {e:Env} {h:Heap} {tr:List aJ} {e':Env} {h':Heap},OT P H0 l e h tr e' h'→∀i:Nat,
  OT P H0 (l.drop i) (cR l tr i e) (au tr h' i) (tr.drop i) e' h'
 |[],e,h,tr,e',h',ho,i=>by
  cases tr with
  |cons _ _=>simp[OT] at ho
  |nil=>simp only[OT] at ho;obtain⟨rfl,rfl⟩:=ho;cases i<;>simp[OT,cR,au,dW]
 |y::l,e,h,tr,e',h',ho,i=>by
  cases tr with
  |nil=>simp[OT] at ho
  |cons m tr=>
   cases i with
   |zero=>
    have:=ho.zero;simpa[cR,this] using ho
   |succ i=>
    simp only[OT] at ho;simp only[List.drop_succ_cons,cR];rcases ho.2.2 with⟨h1,h2,h3,hr⟩|⟨h1,h2,h4,h3,hr⟩
    ·have:=hr.drop i;rw[h3];exact this
    ·exact hr.drop i
theorem Bv(tr:List aJ)(h':Heap)(i j:Nat):au (tr.drop i) h' j=au tr h' (i+j):=by
 unfold au;rw[List.drop_drop]
structure Tra(P:Program)(H0:Nat)(D:Dom)(N:Nat)(l:List bu)(e:Env)(h:Heap)(tr:List aJ)(h':Heap):Prop where
 mono:∀i j,i≤j→(au tr h' i).next≤(au tr h' j).next
 low:∀i,h.next≤(au tr h' i).next
 top:∀i b,(au tr h' i).next≤b→(au tr h' i).get b=none
 run:∀i,∃ρ' w' a',Inv P H0 ρ' (grow D h.next (au tr h' i).next) (au tr h' i) w'∧bI ρ' (grow D h.next (au tr h' i).next) N (cR l tr i e) a'
theorem OT.uu{l:List bu}{e:Env}{h:Heap}{tr:List aJ}{e':Env}{h':Heap}(ho:OT P H0 l e h tr e' h'){ops:Array Oper}{os:List Oper}
  (hos:os.map (bF P ops)=l){N:Nat}(hok:de N l=true){ρ:cI}{D:Dom}{w:World}{a:Act}(hi:Inv P H0 ρ D h w)(he:bI ρ D N e a):
  Tra P H0 D N l e h tr h' where
 mono:=fun i j hij=>by
  obtain⟨ρ',w',a',g1,g2,g3⟩:=ho.tw hos hok hi he i;obtain⟨_,_,_,_,_,g⟩:=(ho.drop i).tw (os:=os.drop i) (by rw[List.map_drop,hos]) (wI i hok) g1 g2 (j-i);rw[Bv] at g;have:i+(j-i)=j:=by omega
  rw[this] at g;exact g
 low:=fun i=>by
  obtain⟨_,_,_,_,_,g⟩:=ho.tw hos hok hi he i;exact g
 top:=fun i=>by
  obtain⟨_,_,_,g,_,_⟩:=ho.tw hos hok hi he i;exact g.top
 run:=fun i=>by
  obtain⟨ρ',w',a',g1,g2,_⟩:=ho.tw hos hok hi he i;exact⟨ρ',w',a',g1,g2⟩
end
mutual
theorem jY{D D':Dom}:∀{v:AV},v.aV D→v.aV D'→v.aV fun b=>D b∧D' b
 |.bool _,_,_|.int _ _,_,_|.str _,_,_|.bq,_,_|.aH,_,_|.fY _,_,_|.jJ,_,_|.jz,_,_|.jI,_,_=>by simp[AV.aV]
 |.ptr b o,h,h'=>by simp only[AV.aV] at*;exact⟨h,h'⟩
 |.sl b o l c op,h,h'=>by simp only[AV.aV] at*;exact⟨h,h'⟩
 |.rest b o k,h,h'=>by simp only[AV.aV] at*;exact⟨h,h'⟩
 |.map b,h,h'=>by simp only[AV.aV] at*;exact⟨h,h'⟩
 |.yield b,h,h'=>by simp only[AV.aV] at*;exact⟨h,h'⟩
 |.func fn first aF,h,h'=>by
  simp only[AV.aV] at*;exact⟨h.1,lT h.2.1 h'.2.1,lT h.2.2 h'.2.2⟩
 |.iface t v,h,h'=>by
  simp only[AV.aV] at*;exact jY h h'
 |.agg cs,h,h'=>by
  simp only[AV.aV] at*;exact lT h h'
 |.cD cs,h,h'=>by
  simp only[AV.aV] at*;exact lT h h'
 |.fz _ _,h,h'=>by simp only[AV.aV] at h
 |.fp _ _,h,h'=>by simp only[AV.aV] at h
theorem lT{D D':Dom}:∀{l:List AV},bh D l→bh D' l→bh (fun b=>D b∧D' b) l
 |[],_,_=>by simp[bh]
 |v::vs,h,h'=>by
  simp only[bh] at*;exact⟨jY h.1 h'.1,lT h.2 h'.2⟩
end
theorem xE{P:Program}{H0:Nat}{ρ ρ':cI}{D D':Dom}{L L':Loc}{x:ck}{w w':World}(h:eL P H0 ρ D L x w)(h':eL P H0 ρ' D' L' x w'):
  eL P H0 ρ (fun b=>D b∧D' b) L x w:=by
 cases x with
 |cells vs wr es=>
  obtain⟨c,t,fr,hc,h1,h2⟩:=h;obtain⟨c',t',fr',ie,vg,q6⟩:=h';exact⟨c,t,fr,hc,fun i v hv=>⟨(h1 i v hv).1,jY (h1 i v hv).2 (vg i v hv).2⟩,h2⟩
 |map es bs c=>
  obtain⟨ms,k,hc,h0,h1,h2,h3⟩:=h;obtain⟨ms',k',ie,h0',vg,q6,_⟩:=h';exact⟨ms,k,hc,h0,h1,fun p hp=>⟨jY (h2 p hp).1 (q6 p hp).1,jY (h2 p hp).2 (q6 p hp).2⟩,h3⟩
 |iter m since seen last=>
  obtain⟨h0,hm,ho,sn,hc,hs⟩:=h;exact⟨h0,⟨hm,h'.2.1⟩,ho,sn,hc,hs⟩
 |loop st cE e ps a b=>
  obtain⟨h0,l,hl,g1,g2,g3,g4,g5⟩:=h;obtain⟨h0',l',hl',g1',Pj,g3',g4',g5'⟩:=h';exact⟨h0,l,hl,g1,g2,g3,fun i=>jY (g4 i) (g4' i),g5⟩
 |defers=>exact h
end Ads
end Go.Proofs.YtnlcabhfkpafmaaGreat
set_option linter.unusedSimpArgs false
set_option linter.unusedVariables false
namespace Go.Proofs.YtnlcabhfkpafmaaGreat
namespace Ads
def oU(bs:List Nat)(j i:Nat):Prop:=(bs.getD j 0).testBit i=true
structure Rg(P:Program)(H0:Nat)(D:Dom)(N:Nat)(l:List bu)(bs:List Nat)(e:Env)(h:Heap)(tr:List aJ)(e':Env)(h':Heap):Prop where
 ot:OT P H0 l e h tr e' h'
 uu:Tra P H0 D N l e h tr h'
 Nd:∀b,D b→b<h.next
 pairs:∀(i j:Nat) (x y:bu),i<j→l[i]?=some x→l[j]?=some y→oU bs j i∨(¬(bP x.op=true∧bP y.op=true)∧nR x y=true)
 ok:de N l=true
section
variable {P:Program} {H0:Nat} {D:Dom} {N:Nat} {l:List bu} {bs:List Nat} {e:Env} {h:Heap} {tr:List aJ} {e':Env} {h':Heap}
theorem Rg.le_last(R:Rg P H0 D N l bs e h tr e' h')(c:Nat):(au tr h' c).next≤h'.next:=by
 by_cases hc:c≤l.length
 ·have:=R.uu.mono c l.length hc
  rwa [R.ot.last (Nat.le_refl _)] at this
 ·rw[R.ot.last (by omega)];exact Nat.le_refl _
theorem Rg.made(R:Rg P H0 D N l bs e h tr e' h'){j:Nat}{x:bu}{m:aJ}{b:ck}(hx:l[j]?=some x)(hm:tr[j]?=some m)(hb:dS x m=some b):
  (∃o f,x.op=.a o∧m.on=true∧aI o m.vals=some (b,f)∧m.v=f (au tr h' j).next)∧au tr h' (j+1)=(au tr h' j).new b∧m.h=au tr h' j:=by
 obtain⟨m',g1,g2,g3,g4⟩:=R.ot.at hx;rw[hm] at g1;cases g1
 unfold dS at hb;split at hb
 ·rename_i o ho fI;simp only[Option.map_eq_some_iff] at hb;obtain⟨⟨b',f⟩,hb,rfl⟩:=hb;rcases g4 with g4|⟨k1,k2,k3⟩
  ·rw[g4.1] at fI;simp at fI
  ·rw[ho] at k3;obtain⟨x',f',q1,q2,q3⟩:=k3;rw[hb] at q1;cases q1
   exact⟨⟨o,f,ho,fI,hb,q2⟩,q3,g2⟩
 ·simp at hb
theorem Rg.still(R:Rg P H0 D N l bs e h tr e' h'){j:Nat}{x:bu}{m:aJ}(hx:l[j]?=some x)(hm:tr[j]?=some m)(hb:dS x m=none)(he:bP x.op=false):
  au tr h' (j+1)=au tr h' j:=by
 obtain⟨m',g1,g2,g3,g4⟩:=R.ot.at hx;rw[hm] at g1;cases g1
 rcases g4 with g4|⟨k1,k2,k3⟩
 ·exact g4.2.2.2
 ·cases ho:x.op with
  |p o=>rw[ho] at k3;exact k3.2
  |r o=>rw[ho] at k3;exact k3.2
  |a o=>
   rw[ho] at k3;obtain⟨x',f',q1,q2,q3⟩:=k3;unfold dS at hb;rw[ho,k1] at hb;simp[q1] at hb
  |bad=>rw[ho] at k3;exact k3.elim
  |e o=>rw[ho] at he;simp[bP] at he
  |call=>rw[ho] at he;simp[bP] at he
  |invoke s=>rw[ho] at he;simp[bP] at he
  |panic=>rw[ho] at he;simp[bP] at he
theorem Rg.FD(R:Rg P H0 D N l bs e h tr e' h'){j:Nat}{x:bu}(hx:l[j]?=some x):∃m,tr[j]?=some m:=by
 obtain⟨m,g,_⟩:=R.ot.at hx;exact⟨m,g⟩
theorem Rg.BN(R:Rg P H0 D N l bs e h tr e' h'){j i:Nat}{x:bu}{m:aJ}{b:ck}(hx:l[j]?=some x)(hm:tr[j]?=some m)(hb:dS x m=some b)(hji:j<i):
  (au tr h' j).next<(au tr h' i).next:=by
 have h1:=R.made hx hm hb;have h2:=R.uu.mono (j+1) i (by omega);rw[h1.2.1] at h2;simp at h2;omega
theorem Rg.FG(R:Rg P H0 D N l bs e h tr e' h'){c b:Nat}(hb:b<(au tr h' c).next):(cC l tr h' c).get b=(au tr h' c).get b:=by
 refine vn _ _ _ b ?_;intro j x m hx hm hne;rw[List.getElem?_drop] at hx hm;obtain⟨bk,Dg⟩:=Option.ne_none_iff_exists'.1 hne;rw[(R.made hx hm Dg).2.2];have:=R.uu.mono c (c+j) (by omega);omega
theorem Ca:∀(l:List bu) (tr:List aJ) (t:Tr ck) (j:Nat) (x:bu) (m:aJ) (b:ck),l[j]?=some x→tr[j]?=some m→dS x m=some b→
  (∀(i:Nat) (y:bu) (n:aJ),j<i→l[i]?=some y→tr[i]?=some n→dS y n≠none→n.h.next≠m.h.next)→(fT l tr t).get m.h.next=some b
 |[],tr,t,j,x,m,b,hx,hm,hb,hi=>by simp at hx
 |y::l,[],t,j,x,m,b,hx,hm,hb,hi=>by simp at hm
 |y::l,n::tr,t,0,x,m,b,hx,hm,hb,hi=>by
  simp at hx hm;subst hx;subst hm;simp only[fT,hb];rw[vn,Tr.bx,if_pos rfl];intro i z k hz hk hne;exact hi (i+1) z k (by omega) (by simpa using hz) (by simpa using hk) hne
 |y::l,n::tr,t,j+1,x,m,b,hx,hm,hb,hi=>by
  have:=fun t=>Ca l tr t j x m b (by simpa using hx) (by simpa using hm) hb (fun i z k hlt hz hk=>hi (i+1) z k (by omega) (by simpa using hz) (by simpa using hk));simp only[fT];split
  ·exact this _
  ·exact this _
theorem Rg.SB(R:Rg P H0 D N l bs e h tr e' h'){c j:Nat}{x:bu}{m:aJ}{b:ck}(hx:l[j]?=some x)(hm:tr[j]?=some m)(hb:dS x m=some b)(hc:c≤j):
  (cC l tr h' c).get (au tr h' j).next=some b:=by
 have BG:=(R.made hx hm hb).2.2;have:=Ca (l.drop c) (tr.drop c) (dW (tr.drop c) h').m (j-c) x m b (by rw[List.getElem?_drop];rw[show c+(j-c)=j by omega];exact hx)
  (by rw[List.getElem?_drop];rw[show c+(j-c)=j by omega];exact hm) hb (fun i y n hlt hy hn hne=>by
   rw[List.getElem?_drop] at hy hn;obtain⟨bk,Dg⟩:=Option.ne_none_iff_exists'.1 hne;rw[(R.made hy hn Dg).2.2,BG];have:=R.BN hx hm hb (i:=c+i) (by omega);omega)
 rw[BG] at this;exact this
theorem Rg.PT(R:Rg P H0 D N l bs e h tr e' h'){c b:Nat}(hb:h'.next≤b):(cC l tr h' c).get b=none:=by
 have:(cC l tr h' c).get b=(au tr h' c).get b:=by
  refine vn _ _ _ b ?_;intro j x m hx hm hne;rw[List.getElem?_drop] at hx hm;obtain⟨bk,Dg⟩:=Option.ne_none_iff_exists'.1 hne;rw[(R.made hx hm Dg).2.2];have h1:=R.BN hx hm Dg (i:=c+j+1) (by omega);have h2:=R.le_last (c+j+1);omega
 rw[this];exact R.uu.top c b (Nat.le_trans (R.le_last c) hb)
theorem drop_cons{α:Type}{l:List α}{i:Nat}{x:α}(h:l[i]?=some x):l.drop i=x::l.drop (i+1):=by
 obtain⟨hlt,rfl⟩:=List.getElem?_eq_some_iff.1 h;exact List.drop_eq_getElem_cons hlt
theorem Rg.SC(R:Rg P H0 D N l bs e h tr e' h'){i:Nat}{x:bu}(hx:l[i]?=some x)(he:bP x.op=false)(b:Nat):
  (cC l tr h' i).get b=(cC l tr h' (i+1)).get b:=by
 obtain⟨m,hm⟩:=R.FD hx;show(fT (l.drop i) (tr.drop i) (au tr h' i).m).get b=(fT (l.drop (i+1)) (tr.drop (i+1)) (au tr h' (i+1)).m).get b;rw[drop_cons hx,drop_cons hm];simp only[fT];cases hb:dS x m with
 |none=>simp only[];rw[R.still hx hm hb he]
 |some bk=>
  simp only[];have:=R.made hx hm hb;rw[this.2.1,this.2.2];rfl
theorem Rg.uv(R:Rg P H0 D N l bs e h tr e' h'){c:Nat}(b:Nat):∀(k:Nat),(∀j x,c≤j→j<c+k→l[j]?=some x→bP x.op=false)→(cC l tr h' c).get b=(cC l tr h' (c+k)).get b
 |0,_=>rfl
 |k+1,hn=>by
  rw[R.uv b k (fun j x h1 h2=>hn j x h1 (by omega))];cases hx:l[c+k]? with
  |some x=>exact R.SC hx (hn (c+k) x (by omega) (by omega) hx) b
  |none=>
   have hlen:l.length≤c+k:=List.getElem?_eq_none_iff.1 hx;show(fT (l.drop (c+k)) (tr.drop (c+k)) (au tr h' (c+k)).m).get b=(fT (l.drop (c+k+1)) (tr.drop (c+k+1)) (au tr h' (c+k+1)).m).get b;have e1:l.drop (c+k)=[]:=List.drop_eq_nil_of_le hlen;have e2:l.drop (c+k+1)=[]:=List.drop_eq_nil_of_le (by omega);rw[R.ot.last hlen,R.ot.last (i:=c+k+1) (by omega),e1,e2];simp[fT]
theorem Rg.VY(R:Rg P H0 D N l bs e h tr e' h'){i:Nat}{x:bu}(hx:l[i]?=some x)(he:bP x.op=true){b:Nat}(hb:(au tr h' (i+1)).next≤b):
  (cC l tr h' i).get b=(cC l tr h' (i+1)).get b:=by
 obtain⟨m,hm⟩:=R.FD hx;show(fT (l.drop i) (tr.drop i) (au tr h' i).m).get b=(fT (l.drop (i+1)) (tr.drop (i+1)) (au tr h' (i+1)).m).get b;rw[drop_cons hx,drop_cons hm];have hn:dS x m=none:=by
  unfold dS;split
  ·rename_i o ho fI;rw[ho] at he;simp[bP] at he
  ·rfl
 simp only[fT,hn];refine rY _ _ _ _ b ?_;have h1:=R.uu.top (i+1) b hb;have h2:=R.uu.top i b (Nat.le_trans (R.uu.mono i (i+1) (by omega)) hb);unfold Heap.get at h1 h2;rw[h1,h2]
def Cut(l:List bu)(S:Nat→Bool)(c:Nat):Prop:=∀j x,l[j]?=some x→bP x.op=true→(S j=true↔j<c)
theorem Rg.FF(R:Rg P H0 D N l bs e h tr e' h'){S:Nat→Bool}{c c':Nat}(h1:Cut l S c)(h2:Cut l S c')(b:Nat):(cC l tr h' c).get b=(cC l tr h' c').get b:=by
 have key:∀c c',c≤c'→Cut l S c→Cut l S c'→(cC l tr h' c).get b=(cC l tr h' c').get b:=by
  intro c c' hle g1 g2;have:=R.uv (c:=c) b (c'-c) (fun j x UN hj2 hx=>by
   cases hx':bP x.op with
   |false=>rfl
   |true=>
    have a1:=g1 j x hx hx';have a2:=g2 j x hx hx';have:=a1.1 (a2.2 (by omega));omega)
  rwa [show c+(c'-c)=c' by omega] at this
 by_cases hle:c≤c'
 ·exact key c c' hle h1 h2
 ·exact(key c' c (by omega) h2 h1).symm
def DS(D:Dom)(l:List bu)(tr:List aJ)(h':Heap)(S:Nat→Bool):Dom:=fun b=>
 D b∨∃j,S j=true∧j<l.length∧(au tr h' j).next≤b∧b<(au tr h' (j+1)).next
structure J(P:Program)(H0:Nat)(D:Dom)(N:Nat)(l:List bu)(bs:List Nat)(e:Env)(h:Heap)(tr:List aJ)(h':Heap)(ru:cI)(w0:World)(a0:Act)
  (S:Nat→Bool)(c:Nat)(ρ:cI)(a:Act)(w:World):Prop where
 cut:Cut l S c
 closed:∀j,S j=true→∀i,oU bs j i→S i=true
 inv:Inv P H0 ρ (DS D l tr h' S) (cC l tr h' c) w
 ext:Ext ru D h w0 ρ (cC l tr h' c) w
 made:∀(j:Nat) (x:bu) (m:aJ) (bk:ck),l[j]?=some x→tr[j]?=some m→dS x m=some bk→S j=false→(cC l tr h' c).get (au tr h' j).next=some bk
 env:bI ρ (DS D l tr h' S) N (fH S l tr e) a
 defers:a.defers=a0.defers
theorem Inv.congr{ρ:cI}{h2:Heap}{w:World}(i:Inv P H0 ρ D h w)(hn:h2.next=h.next)(hg:∀b,h2.get b=h.get b):Inv P H0 ρ D h2 w:=by
 have iO:∀b,h2.wr b=h.wr b:=fun b=>by simp only[Heap.wr,hg]
 refine⟨fun b hb=>by rw[hn];exact i.lt b hb,fun b hb=>by rw[hg];exact i.top b (by omega),i.low,fun b x hb hx=>i.bJ b x hb (by rw[←hg];exact hx),fun b b' hb hb' hne hw hx=>?_⟩;rw[iO] at hw;rw[hg] at hx;exact i.apart b b' hb hb' hne hw hx
theorem Ext.congr{ρ ρ':cI}{h2 h3:Heap}{w w':World}(x:Ext ρ D h w ρ' h2 w')(hn:h3.next=h2.next)(hg:∀b,h3.get b=h2.get b):Ext ρ D h w ρ' h3 w':=by
 have iO:∀b,h3.wr b=h2.wr b:=fun b=>by simp only[Heap.wr,hg]
 exact⟨by rw[hn];exact x.next,x.bA,x.size,x.frame,fun b h1 h2=>by rw[hg];exact x.iD b h1 h2,fun b h1 h2=>by rw[hg] at h2;rw[iO];exact x.old b h1 h2,
  fun b h1 h2=>x.fresh b h1 (by omega),x.tape,x.os,x.output⟩
theorem bI.congr{ρ:cI}{e1 e2:Env}{a:Act}(he:bI ρ D N e1 a)(hg:∀d,e2.get d=e1.get d):bI ρ D N e2 a:=
 ⟨he.size,fun i=>by rw[hg];exact he.get i,fun i=>by rw[hg];exact he.dom i⟩
theorem Rg.sD(R:Rg P H0 D N l bs e h tr e' h'){S:Nat→Bool}{c i:Nat}{x:bu}(Jk:Cut l S c)(kV:∀j,S j=true→∀i,oU bs j i→S i=true)(hx:l[i]?=some x)(hsi:S i=false)
  (hpre:∀j,oU bs i j→S j=true):Cut l (fun j=>S j||decide (j=i)) (cond (bP x.op) (i+1) c)∧(bP x.op=true→Cut l S i):=by
 have hi:bP x.op=true→Cut l S i:=by
  intro he j y hy Pu;constructor
  ·intro hs;by_cases hji:j<i
   ·exact hji
   ·have hne:j≠i:=by rintro rfl;rw[hs] at hsi;simp at hsi
    rcases R.pairs i j x y (by omega) hx hy with hb|hb
    ·have:=kV j hs i hb;rw[this] at hsi;simp at hsi
    ·exact absurd ⟨he,Pu⟩ hb.1
  ·intro hji;rcases R.pairs j i y x hji hy hx with hb|hb
   ·exact hpre j hb
   ·exact absurd ⟨Pu,he⟩ hb.1
 refine⟨?_,hi⟩;cases he:bP x.op with
 |true=>
  intro j y hy Pu;have:=hi he j y hy Pu;by_cases hji:j=i
  ·subst hji;simp
  ·simp[hji,this];omega
 |false=>
  intro j y hy Pu;have hne:j≠i:=by rintro rfl;rw[hx] at hy;cases hy;rw[he] at Pu;simp at Pu
  simp[hne,Jk j y hy Pu]
theorem Rg.slot(R:Rg P H0 D N l bs e h tr e' h'){S:Nat→Bool}{i:Nat}{x:bu}(kV:∀j,S j=true→∀i,oU bs j i→S i=true)(hx:l[i]?=some x)(hsi:S i=false)
  (hpre:∀j,oU bs i j→S j=true){d:Nat}(hd:d∈x.reads):(fH S l tr e).get d=(cR l tr i e).get d:=by
 refine nu l tr S i d e e rfl R.ot.length ?_;intro j y hy CB;have hnm:x.names.contains d=true:=by simp[bu.names,hd]
 by_cases hji:j<i
 ·rw[decide_eq_true hji];rcases R.pairs j i y x hji hy hx with hb|hb
  ·exact hpre j hb
  ·have:=hb.2;unfold nR at this;rw[CB] at this;simp only[hnm] at this;simp at this
 ·rw[decide_eq_false hji];by_cases he:j=i
  ·subst he;exact hsi
  ·rcases R.pairs i j x y (by omega) hx hy with hb|hb
   ·cases hs:S j with
    |false=>rfl
    |true=>have:=kV j hs i hb;rw[this] at hsi;simp at hsi
   ·have:=hb.2;unfold nR at this;rw[CB] at this;simp only[hnm] at this;simp at this
theorem Rg.late(R:Rg P H0 D N l bs e h tr e' h'){S:Nat→Bool}{i:Nat}{x:bu}(kV:∀j,S j=true→∀i,oU bs j i→S i=true)(hx:l[i]?=some x)(hsi:S i=false)
  {d:Nat}{j:Nat}{y:bu}(hij:i<j)(hy:l[j]?=some y)(RB:x.dst=some d)(CB:y.dst=some d):S j=false:=by
 rcases R.pairs i j x y hij hx hy with hb|hb
 ·cases hs:S j with
  |false=>rfl
  |true=>have:=kV j hs i hb;rw[this] at hsi;simp at hsi
 ·have:=hb.2;unfold nR at this;rw[CB,RB] at this;simp[bu.names,CB] at this
end
end Ads
end Go.Proofs.YtnlcabhfkpafmaaGreat
set_option linter.unusedSimpArgs false
set_option linter.unusedVariables false
namespace Go.Proofs.YtnlcabhfkpafmaaGreat
namespace Ads
section
variable {P:Program} {H0:Nat} {D:Dom} {N:Nat} {l:List bu} {bs:List Nat} {e:Env} {h:Heap} {tr:List aJ} {e':Env} {h':Heap}
 {ru:cI} {w0:World} {a0:Act} {S:Nat→Bool} {c:Nat} {ρ:cI} {a:Act} {w:World} {i:Nat} {x:bu} {m:aJ}
def dy(S:Nat→Bool)(i:Nat):Nat→Bool:=fun j=>S j||decide (j=i)
theorem kj(hi:i<l.length)(b:Nat):DS D l tr h' (dy S i) b↔DS D l tr h' S b∨((au tr h' i).next≤b∧b<(au tr h' (i+1)).next):=by
 constructor
 ·rintro(hb|⟨j,hs,hj,h1,h2⟩)
  ·exact .inl (.inl hb)
  ·by_cases hji:j=i
   ·subst hji;exact .inr ⟨h1,h2⟩
   ·simp only[dy,hji,decide_false,Bool.or_false] at hs;exact .inl (.inr ⟨j,hs,hj,h1,h2⟩)
 ·rintro((hb|⟨j,hs,hj,h1,h2⟩)|hb)
  ·exact .inl hb
  ·exact .inr ⟨j,by simp[dy,hs],hj,h1,h2⟩
  ·exact .inr ⟨i,by simp[dy],hi,hb.1,hb.2⟩
theorem HW(hi:i<l.length)(hs:au tr h' (i+1)=au tr h' i):DS D l tr h' (dy S i)=DS D l tr h' S:=by
 funext b
 rw[eq_iff_iff,kj hi,hs];constructor
 ·rintro(hb|hb)
  ·exact hb
  ·omega
 ·exact .inl
theorem Heap.jN{h1 h2:Heap}{b:Nat}(hg:h1.get b=h2.get b):h1.wr b=h2.wr b:=by simp only[Heap.wr,hg]
structure Up(bs:List Nat)(l:List bu)(tr:List aJ)(S:Nat→Bool)(i:Nat)(x:bu)(m:aJ):Prop where
 hx:l[i]?=some x
 hm:tr[i]?=some m
 hsi:S i=false
 pre:∀j,oU bs i j→S j=true
theorem Up.lt(u:Up bs l tr S i x m):i<l.length:=(List.getElem?_eq_some_iff.1 u.hx).1
theorem J.pR(j:J P H0 D N l bs e h tr h' ru w0 a0 S c ρ a w)(u:Up bs l tr S i x m):∀k,dy S i k=true→∀k',oU bs k k'→dy S i k'=true:=by
 intro k hk k' hb;simp only[dy,Bool.or_eq_true,decide_eq_true_eq] at hk⊢;rcases hk with hk|rfl
 ·exact .inl (j.closed k hk k' hb)
 ·exact .inl (u.pre k' hb)
theorem J.wF(R:Rg P H0 D N l bs e h tr e' h')(j:J P H0 D N l bs e h tr h' ru w0 a0 S c ρ a w)(u:Up bs l tr S i x m){ρ':cI}(gG:∀b,DS D l tr h' S b→ρ' b=ρ b)
  (hv:m.v.aV (DS D l tr h' (dy S i))):bI ρ' (DS D l tr h' (dy S i)) N (fH (dy S i) l tr e) (a.put x.dst (real ρ' m.v)):=by
 have h1:bI ρ' (DS D l tr h' (dy S i)) N (fH S l tr e) a:=j.env.mono gG (fun b hb=>(kj u.lt b).2 (.inl hb));refine(h1.put (ug R.ok u.hx) hv).congr ?_;intro d;exact yB l tr S (dy S i) i x m e d R.ot.length u.hx u.hm (fun _=>rfl) u.hsi (fun k y hk hy RB CB=>R.late j.closed u.hx u.hsi hk hy RB CB)
theorem J.slots(R:Rg P H0 D N l bs e h tr e' h')(j:J P H0 D N l bs e h tr h' ru w0 a0 S c ρ a w)(u:Up bs l tr S i x m){d:Nat}(hd:d∈x.reads):
  (fH S l tr e).get d=(cR l tr i e).get d:=R.slot j.closed u.hx u.hsi u.pre hd
theorem lu{rs:List bE}{t:Nat}(h:bE.t t∈rs):t∈gV rs:=by
 induction rs with
 |nil=>simp at h
 |cons r rs ih=>
  rcases List.mem_cons.1 h with rfl|hh
  ·simp[gV]
  ·cases r<;>simp[gV,ih hh]
theorem J.vals(R:Rg P H0 D N l bs e h tr e' h')(j:J P H0 D N l bs e h tr h' ru w0 a0 S c ρ a w)(u:Up bs l tr S i x m):x.args.map (fH S l tr e).ev=x.args.map (cR l tr i e).ev:=by
 refine List.map_congr_left fun r hr=>?_;cases r with
 |c v=>rfl
 |t d=>exact j.slots R u (List.mem_append_right _ (lu hr))
theorem J.wanted(R:Rg P H0 D N l bs e h tr e' h')(j:J P H0 D N l bs e h tr h' ru w0 a0 S c ρ a w)(u:Up bs l tr S i x m):bN x (fH S l tr e)=bN x (cR l tr i e):=by
 unfold bN;cases hg:x.guard with
 |none=>rfl
 |some p=>
  obtain⟨d,want⟩:=p;simp only;rw[j.slots R u (by simp[bu.reads,hg])]
theorem J.quiet(R:Rg P H0 D N l bs e h tr e' h')(j:J P H0 D N l bs e h tr h' ru w0 a0 S c ρ a w)(u:Up bs l tr S i x m)(hst:au tr h' (i+1)=au tr h' i)(hmb:dS x m=none)
  (hv:m.v.aV (DS D l tr h' S)):J P H0 D N l bs e h tr h' ru w0 a0 (dy S i) (cond (bP x.op) (i+1) c) ρ (a.put x.dst (real ρ m.v)) w:=by
 have hcs:=R.sD j.cut j.closed u.hx u.hsi u.pre;have hds:DS D l tr h' (dy S i)=DS D l tr h' S:=HW u.lt hst;have Jo:∀b,(cC l tr h' (cond (bP x.op) (i+1) c)).get b=(cC l tr h' c).get b:=by
  intro b;cases he:bP x.op with
  |false=>rfl
  |true=>
   rw[R.FF j.cut (hcs.2 he) b];simp only[cond_true];show(fT (l.drop (i+1)) (tr.drop (i+1)) (au tr h' (i+1)).m).get b=(fT (l.drop i) (tr.drop i) (au tr h' i).m).get b;rw[drop_cons u.hx,drop_cons u.hm,hst];simp only[fT,hmb]
 refine⟨hcs.1,j.pR u,?_,j.ext.congr rfl Jo,?_,?_,?_⟩
 ·rw[hds];exact j.inv.congr rfl Jo
 ·intro k y n bk hy hn hb hs;rw[Jo];refine j.made k y n bk hy hn hb ?_;simp only[dy,Bool.or_eq_false_iff] at hs;exact hs.1
 ·exact j.wF R u (fun _ _=>rfl) (by rw[hds];exact hv)
 ·rw[←j.defers];cases x.dst<;>rfl
theorem J.yY(j:J P H0 D N l bs e h tr h' ru w0 a0 S c ρ a w){c':Nat}(hg:∀(k:Nat) (y:bu) (n:aJ) (bk:ck),l[k]?=some y→tr[k]?=some n→dS y n=some bk→S k=false→k≠i→
   (cC l tr h' c).get (au tr h' k).next=some bk→(cC l tr h' c').get (au tr h' k).next=some bk):
  ∀(k:Nat) (y:bu) (n:aJ) (bk:ck),l[k]?=some y→tr[k]?=some n→dS y n=some bk→dy S i k=false→(cC l tr h' c').get (au tr h' k).next=some bk:=by
 intro k y n bk hy hn hb hs;simp only[dy,Bool.or_eq_false_iff,decide_eq_false_iff_not] at hs;exact hg k y n bk hy hn hb hs.1 hs.2 (j.made k y n bk hy hn hb hs.1)
theorem Rg.Fh(R:Rg P H0 D N l bs e h tr e' h'){k:Nat}{y:bu}{n:aJ}{bk:ck}(hy:l[k]?=some y)(hn:tr[k]?=some n)(hb:dS y n=some bk)(hs:S k=false):
  ¬DS D l tr h' S (au tr h' k).next:=by
 rintro(hd|⟨q,hq,hql,h1,h2⟩)
 ·have:=R.Nd _ hd;have:=R.uu.low k;omega
 ·by_cases hqk:q=k
  ·subst hqk;rw[hs] at hq;simp at hq
  ·by_cases hlt:q<k
   ·have:=R.uu.mono (q+1) k (by omega);omega
   ·have:=R.BN hy hn hb (i:=q) (by omega);omega
theorem J.alloc(R:Rg P H0 D N l bs e h tr e' h')(j:J P H0 D N l bs e h tr h' ru w0 a0 S c ρ a w)(u:Up bs l tr S i x m){bk:ck}(hb:dS x m=some bk){obj:Obj}
  (z7:∀ρ' D',(∀b,DS D l tr h' S b→D' b)→(∀b,DS D l tr h' S b→ρ' b=ρ b)→eL P H0 ρ' D' ⟨w.heap.size,0,0⟩ bk (w.alloc obj))
  (hv:m.v.aV (DS D l tr h' (dy S i))):
  J P H0 D N l bs e h tr h' ru w0 a0 (dy S i) c (iA ρ (au tr h' i).next ⟨w.heap.size,0,0⟩) (a.put x.dst (real (iA ρ (au tr h' i).next ⟨w.heap.size,0,0⟩) m.v)) (w.alloc obj):=by
 have hcs:=R.sD j.cut j.closed u.hx u.hsi u.pre;obtain⟨⟨o,f,ho,fI,hai,yM⟩,hst,BG⟩:=R.made u.hx u.hm hb;have hne:bP x.op=false:=by rw[ho];rfl
 rw[hne] at hcs;have hnot:=R.Fh u.hx u.hm hb u.hsi;have cu:=j.made i x m bk u.hx u.hm hb u.hsi;generalize hid:(au tr h' i).next=id at*
 have m0:(au tr h' (i+1)).next=id+1:=by rw[hst];simp[hid]
 have hds:∀b,DS D l tr h' (dy S i) b↔DS D l tr h' S b∨b=id:=by
  intro b;rw[kj u.lt,m0,hid];constructor
  ·rintro(hb|hb)
   ·exact .inl hb
   ·exact .inr (by omega)
  ·rintro(hb|rfl)
   ·exact .inl hb
   ·exact .inr (by omega)
 have gG:∀b,DS D l tr h' S b→iA ρ id ⟨w.heap.size,0,0⟩ b=ρ b:=fun b hb=>j9 _ _ (by rintro rfl;exact hnot hb);have hold:∀r,r<w.heap.size→(w.alloc obj).heap[r]?=w.heap[r]?:=by
  intro r hr;show(w.heap.push obj)[r]?=_;rw[Array.getElem?_push,if_neg (by omega)]
 have hsz:(w.alloc obj).heap.size=w.heap.size+1:=by show(w.heap.push obj).size=_;simp
 have UL:id<h'.next:=by have:=R.le_last (i+1);omega
 have ZU:h.next≤id:=by have:=R.uu.low i;omega
 refine⟨hcs.1,j.pR u,?_,?_,j.yY (fun _ _ _ _ _ _ _ _ _ hg=>hg),j.wF R u gG hv,?_⟩
 ·refine⟨?_,j.inv.top,by rw[hsz];have:=j.inv.low;omega,?_,?_⟩
  ·intro b hb;rcases(hds b).1 hb with hb|rfl
   ·exact j.inv.lt b hb
   ·exact UL
  ·intro b y hb hy;rcases(hds b).1 hb with hb|rfl
   ·have:=j.inv.bJ b y hb hy;rw[gG b hb];exact bO this (fun b hb=>(hds b).2 (.inl hb)) gG (hold _ (gP this))
   ·rw[cu] at hy;cases hy
    rw[bM];exact z7 _ _ (fun b hb=>(hds b).2 (.inl hb)) gG
  ·intro b b' hb hb' vV hw hg;rcases(hds b).1 hb with hb|rfl
   ·rw[gG b hb];rcases(hds b').1 hb' with hb'|rfl
    ·rw[gG b' hb'];exact j.inv.apart b b' hb hb' vV hw hg
    ·rw[bM];have:=j.inv.V0 b hb hw;simp only;omega
   ·rcases(hds b').1 hb' with hb'|rfl
    ·rw[gG b' hb',bM];have:=j.inv.N9 hb' hg;simp only;omega
    ·exact absurd rfl vV
 ·have x0:=j.ext;refine⟨x0.next,?_,by rw[hsz];have:=x0.size;omega,?_,x0.iD,x0.old,?_,x0.tape,x0.os,x0.output⟩
  ·intro b hb;rw[gG b (.inl hb)];exact x0.bA b hb
  ·intro r hr hf;rw[hold r (by have:=x0.size;omega)];exact x0.frame r hr hf
  ·intro b qP iG;by_cases yK:b=id
   ·subst yK;rw[bM];exact .inl x0.size
   ·rw[j9 _ _ yK];exact x0.fresh b qP iG
 ·rw[←j.defers];cases x.dst<;>rfl
end
end Ads
end Go.Proofs.YtnlcabhfkpafmaaGreat
set_option linter.unusedSimpArgs false
set_option linter.unusedVariables false
namespace Go.Proofs.YtnlcabhfkpafmaaGreat
namespace Ads
section
variable {P:Program} {H0:Nat} {D:Dom} {N:Nat} {l:List bu} {bs:List Nat} {e:Env} {h:Heap} {tr:List aJ} {e':Env} {h':Heap}
 {ru:cI} {w0:World} {a0:Act} {S:Nat→Bool} {c:Nat} {ρ:cI} {a:Act} {w:World} {i:Nat} {x:bu} {m:aJ} {ro:Option Nat} {n:Nat}
def only(e:Env):List Nat→Env
 |[]=>.nil
 |d::ds=>Tr.set (only e ds) d (e.get d)
theorem pU(e:Env)(d:Nat):∀ds:List Nat,(only e ds).get d=if d∈ds then e.get d else .undef
 |[]=>by simp[only,Env.get,Tr.get]
 |x::ds=>by
  show((Tr.set (only e ds) x (e.get x)).get d).getD .undef=_;rw[Tr.bx];by_cases hx:d=x
  ·subst hx;simp
  ·rw[if_neg hx];have:=pU e d ds;unfold Env.get at this;simp only[List.mem_cons,hx,false_or];exact this
def yh(ρ:cI)(N:Nat)(e:Env)(a:Act):Act:={a with tmps:=Array.ofFn (n:=N) fun i=>real ρ (e.get i)}
theorem FX{D:Dom}(hh:∀i,N≤i→real ρ (e.get i)=Go.undef)(hd:∀i,(e.get i).aV D):bI ρ D N e (yh ρ N e a) where
 size:=by simp[yh]
 get:=fun i=>by
  by_cases hi:i<N
  ·simp[yh,Array.getD_eq_getD_getElem?,hi]
  ·rw[hh i (by omega)];simp[yh,Array.getD_eq_getD_getElem?,hi]
 dom:=hd
theorem xL{op:Op}{iop:fZ}{rs:List bE}(hc:az P op=some (iop,rs))(he:bP iop=true):
  (∀cs b,op≠.select cs b)∧∀y∈op.operands,∃r∈rs,dD y=some r:=by
 have key:∀(xs:List Operand) (rs:List bE),cn xs=some rs→∀y∈xs,∃r∈rs,dD y=some r:=by
  intro xs;induction xs with
  |nil=>intro rs h y hy;simp at hy
  |cons z xs ih=>
   intro rs h y hy;obtain⟨r,rs',rfl,h1,h2⟩:=dF h;rcases List.mem_cons.1 hy with rfl|hy
   ·exact⟨r,by simp,h1⟩
   ·obtain⟨r',hr',h3⟩:=ih rs' h2 y hy;exact⟨r',by simp[hr'],h3⟩
 cases op
 case store t a y=>
  simp only[az,Option.bind_eq_some_iff] at hc;obtain⟨k,_,hc⟩:=hc;simp only[one,Option.map_eq_some_iff,Prod.mk.injEq] at hc;obtain⟨rs',hr,_,rfl⟩:=hc;exact⟨by simp,fun y hy=>key _ _ hr y (by simpa[Op.operands] using hy)⟩
 case panic y=>
  simp only[az,one,Option.map_eq_some_iff,Prod.mk.injEq] at hc;obtain⟨rs',hr,_,rfl⟩:=hc;exact⟨by simp,fun y hy=>key _ _ hr y (by simpa[Op.operands] using hy)⟩
 case call k=>
  refine⟨by simp,fun y hy=>?_⟩;simp only[az] at hc;split at hc
  ·rename_i f hf;simp only[Option.map_eq_some_iff,Prod.mk.injEq] at hc;obtain⟨rs',hr,_,rfl⟩:=hc;exact key _ _ hr y (by simpa[Op.operands,Call.operands,hf] using hy)
  ·rename_i f nm hf;simp only[Option.map_eq_some_iff,Prod.mk.injEq] at hc;obtain⟨rs',hr,_,rfl⟩:=hc;exact key _ _ hr y (by simpa[Op.operands,Call.operands,hf] using hy)
  ·rename_i b hf;have aad:(Op.call k).operands=k.args:=by simp[Op.operands,Call.operands,hf]
   rw[aad] at hy;have hy':y∈k.args.toList:=by simpa using hy
   split at hc
   ·exfalso;repeat' (first
     |(obtain⟨h2,_⟩:=aT hc;subst h2;simp[bP] at he;done)
     |(simp at hc;done)
     |(split at hc))
   ·exfalso;obtain⟨h2,_⟩:=aT hc;subst h2;simp[bP] at he
   ·exfalso;obtain⟨h2,_⟩:=aT hc;subst h2;simp[bP] at he
   ·rename_i s z t u ts hargs eU;rw[hargs] at hy';split at hc
    ·split at hc
     ·simp at hc
     ·split at hc
      ·split at hc
       ·simp at hc
       ·exact key _ _ (aT hc).2 y hy'
      ·simp at hc
    ·simp at hc
   ·rename_i s z t ts hargs eU;rw[hargs] at hy';split at hc
    ·simp only[Option.bind_eq_some_iff] at hc;obtain⟨size,hsz,hc⟩:=hc;exact key _ _ (aT hc).2 y hy'
    ·simp at hc
   ·rename_i z t hargs eU;rw[hargs] at hy';split at hc
    ·simp only[Option.bind_eq_some_iff] at hc;obtain⟨u,_,hc⟩:=hc;exact key _ _ (aT hc).2 y hy'
    ·exfalso;obtain⟨h2,_⟩:=aT hc;subst h2;simp[bP] at he
    ·simp at hc
   ·rename_i z z2 t ts hargs eU;rw[hargs] at hy';split at hc
    ·split at hc
     ·exact key _ _ (aT hc).2 y hy'
     ·simp at hc
    ·simp at hc
   ·simp at hc
 case range t x=>
  simp only[az] at hc;split at hc
  ·exact⟨by simp,fun y hy=>key _ _ (aT hc).2 y (by simpa[Op.operands] using hy)⟩
  ·simp at hc
 case next it s=>
  cases s with
  |true=>simp[az] at hc
  |false=>
   simp only[az] at hc;exact⟨by simp,fun y hy=>key _ _ (aT hc).2 y (by simpa[Op.operands] using hy)⟩
 case mapUpdate t m k x=>
  simp only[az] at hc;split at hc
  ·split at hc
   ·exact⟨by simp,fun y hy=>key _ _ (aT hc).2 y (by simpa[Op.operands] using hy)⟩
   ·exfalso;obtain⟨h2,_⟩:=aT hc;subst h2;simp[bP] at he
   ·exfalso;obtain⟨h2,_⟩:=aT hc;subst h2;simp[bP] at he
   ·simp at hc
  ·simp at hc
 case insert t m k x=>
  simp only[az] at hc;split at hc
  ·split at hc
   ·exact⟨by simp,fun y hy=>key _ _ (aT hc).2 y (by simpa[Op.operands] using hy)⟩
   ·exfalso;obtain⟨h2,_⟩:=aT hc;subst h2;simp[bP] at he
   ·exfalso;obtain⟨h2,_⟩:=aT hc;subst h2;simp[bP] at he
   ·simp at hc
  ·simp at hc
 case unOp u t y=>
  exfalso;cases u<;>simp only[az] at hc<;>first
   |(obtain⟨h2,_⟩:=aT hc;subst h2;simp[bP] at he;done)
   |(simp at hc;done)
 case makeMap t r=>
  exfalso;cases r with
  |none=>simp only[az] at hc;obtain⟨h2,_⟩:=aT hc;subst h2;simp[bP] at he
  |some r=>simp[az] at hc
 all_goals (exfalso;simp only[az] at hc)
 all_goals repeat' (first
  |(simp only[Option.bind_eq_some_iff] at hc;obtain⟨_,_,hc⟩:=hc)
  |(simp only[Option.map_eq_some_iff] at hc;obtain⟨_,_,hc⟩:=hc;simp only[Prod.mk.injEq] at hc;obtain⟨hc,_⟩:=hc;subst hc;simp[bP] at he;done)
  |(obtain⟨h2,_⟩:=aT hc;subst h2;simp[bP] at he;done)
  |(simp at hc;done)
  |(split at hc))
end
end Ads
end Go.Proofs.YtnlcabhfkpafmaaGreat
set_option linter.unusedSimpArgs false
set_option linter.unusedVariables false
namespace Go.Proofs.YtnlcabhfkpafmaaGreat
namespace Ads
section
variable {P:Program} {H0:Nat} {D:Dom} {N:Nat} {l:List bu} {bs:List Nat} {e:Env} {h:Heap} {tr:List aJ} {e':Env} {h':Heap}
 {ru:cI} {w0:World} {a0:Act} {S:Nat→Bool} {c:Nat} {ρ:cI} {a:Act} {w:World} {i:Nat} {x:bu} {m:aJ} {ro:Option Nat} {n:Nat}
theorem G6{d:Option Nat}{a a2:Act}{u v:Value}(hd:vK N d=true)(h2:a2.tmps.size=N)(hp:a2.put d u=a2.put d v):a.put d u=a.put d v:=by
 cases d with
 |none=>rfl
 |some d=>
  have hlt:d<N:=Nat.le_of_ble_eq_true (show Nat.ble (d+1) N=true from hd);have:(a2.tmps.setIfInBounds d u)[d]?=(a2.tmps.setIfInBounds d v)[d]?:=congrArg (fun z:Act=>z.tmps[d]?) hp;simp[h2,hlt] at this;rw[this]
theorem put_defers{d:Option Nat}{a:Act}{v:Value}:(a.put d v).defers=a.defers:=by cases d<;>rfl
theorem Eb{o:Oper}{a a2:Act}{w:World}{next:Act→World→Prop}{Q:Exit→Act→World→Prop}(hd:vK N o.dst=true)(h2:a2.tmps.size=N)
  (hs:Oper.semAt (FW ro).round a.eval o=Oper.semAt (FW ro).round a2.eval o)
  (h:o.wpIn (FW ro) n P a2 w (fun z w'=>∃v,z=a2.put o.dst v∧next (a.put o.dst v) w') (fun _ _ _=>False)):o.wpIn (FW ro) n P a w next Q:=by
 refine⟨fun _ _=>trivial,?_⟩;rw[hs];have h:=h.2;generalize(Oper.semAt (FW ro).round a2.eval o).run P w=r at h;have key:∀(v:Value) (w':World),(∃v',a2.put o.dst v=a2.put o.dst v'∧next (a.put o.dst v') w')→next (a.put o.dst v) w':=by
  rintro v w' ⟨v',h1,h3⟩;rw[G6 (a:=a) hd h2 h1];exact h3
 cases r with
 |ok x w'=>
  cases x<;>simp only[Oper.uponIn] at h⊢
  case value v=>exact key _ _ h
  case skip=>exact key _ _ h
  case defer d=>
   exfalso;obtain⟨v,h1,_⟩:=h;have:=congrArg Act.defers h1;rw[put_defers,put_defers] at this;have:=congrArg List.length this;simp at this
  case enter f args=>
   exact⟨h.1,CallsIn.mono h.2 (fun e w'' he=>by
    cases e with
    |returned v=>exact key _ _ he
    |panicked c=>exact he.elim
    |outgrown=>obtain⟨_,_,q⟩:=he;exact q.elim)⟩
  case row row args=>exact⟨h.1,RowsIn.mono h.2 (fun _ _ he=>key _ _ he)⟩
  case round l f tmps as bd=>
   exact⟨h.1,RoundIn.mono h.2 (fun e w'' he=>by
    cases e with
    |returned v=>exact key _ _ he
    |panicked c=>exact he.elim
    |outgrown=>obtain⟨_,_,q⟩:=he;exact q.elim)⟩
  all_goals (first|exact h.elim|skip)
 |halt x w'=>
  cases x<;>simp only[Oper.uponIn] at h
def MI(D:Dom)(l:List bu)(h:Heap)(tr:List aJ)(h':Heap)(S:Nat→Bool)(i:Nat):Dom:=fun b=>
 DS D l tr h' S b∧grow D h.next (au tr h' i).next b
theorem Qp(R:Rg P H0 D N l bs e h tr e' h'){b:Nat}(hb:DS D l tr h' S b)(hlt:b<(au tr h' i).next):MI D l h tr h' S i b:=by
 refine⟨hb,?_⟩;rcases hb with hb|⟨q,_,_,h1,_⟩
 ·exact .inl hb
 ·exact .inr ⟨Nat.le_trans (R.uu.low q) h1,hlt⟩
theorem pg(R:Rg P H0 D N l bs e h tr e' h'){b:Nat}(hb:MI D l h tr h' S i b):b<(au tr h' i).next:=by
 rcases hb.2 with hd|hd
 ·exact Nat.lt_of_lt_of_le (R.Nd b hd) (R.uu.low i)
 ·exact hd.2
theorem J.before(R:Rg P H0 D N l bs e h tr e' h')(j:J P H0 D N l bs e h tr h' ru w0 a0 S c ρ a w)(u:Up bs l tr S i x m)(he:bP x.op=true):
  (∀b,b<(au tr h' i).next→(au tr h' i).get b=(cC l tr h' c).get b)∧Inv P H0 ρ (MI D l h tr h' S i) (au tr h' i) w:=by
 have hcs:=R.sD j.cut j.closed u.hx u.hsi u.pre;have hg:∀b,b<(au tr h' i).next→(au tr h' i).get b=(cC l tr h' c).get b:=by
  intro b hb;rw[R.FF j.cut (hcs.2 he) b,R.FG hb]
 refine⟨hg,fun b hb=>pg R hb,fun b hb=>R.uu.top i b hb,j.inv.low,?_,?_⟩
 ·intro b y hb hy;have hlt:=pg R hb;have h1:=j.inv.bJ b y hb.1 (by rw[←hg b hlt];exact hy);obtain⟨Lk,wv,av,iv,_⟩:=R.uu.run i;exact xE h1 (iv.bJ b y hb.2 hy)
 ·intro b b' hb hb' hne hw hx;exact j.inv.apart b b' hb.1 hb'.1 hne (by rw[←Heap.jN (hg b (pg R hb))];exact hw) (by rw[←hg b' (pg R hb')];exact hx)
theorem J.effect(R:Rg P H0 D N l bs e h tr e' h')(j:J P H0 D N l bs e h tr h' ru w0 a0 S c ρ a w)(u:Up bs l tr S i x m)(he:bP x.op=true)
  {o:Oper}(hc:az P o.op=some (x.op,x.args))(l8:x.dst=o.dst)(yM:m.vals=x.args.map (cR l tr i e).ev)
  (hop:uS P H0 x.op m.vals (au tr h' i) m.v (au tr h' (i+1))){next:Act→World→Prop}{Q:Exit→Act→World→Prop}
  (hk:∀ρ' w',J P H0 D N l bs e h tr h' ru w0 a0 (dy S i) (i+1) ρ' (a.put x.dst (real ρ' m.v)) w'→next (a.put x.dst (real ρ' m.v)) w'):o.wpIn (FW ro) n P a w next Q:=by
 have hcs:=R.sD j.cut j.closed u.hx u.hsi u.pre;rw[he] at hcs;simp only[cond_true] at hcs;have Jk:=hcs.2 trivial;obtain⟨hg,hinv⟩:=j.before R u he;have hmono:=R.uu.mono i (i+1) (by omega);obtain⟨Lk,wv,av,iv,ev⟩:=R.uu.run i;have PE:∀d,d∈gV x.args→(fH S l tr e).get d=(cR l tr i e).get d:=fun d hd=>j.slots R u (List.mem_append_right _ hd);have ZN:bI ρ (MI D l h tr h' S i) N (only (fH S l tr e) (gV x.args)) (yh ρ N (only (fH S l tr e) (gV x.args)) a):=by
  refine FX (fun d hd=>?_) (fun d=>?_)
  ·rw[pU];split
   ·rw[←j.env.get d];simp[Array.getD_eq_getD_getElem?,j.env.size,Nat.not_lt.2 hd]
   ·exact fW ρ
  ·rw[pU];split
   ·rename_i hmem;refine jY (j.env.dom d) ?_;rw[PE d hmem];exact ev.dom d
   ·simp[AV.undef,AV.aV,bh]
 have ny:x.args.map (only (fH S l tr e) (gV x.args)).ev=m.vals:=by
  rw[yM];refine List.map_congr_left fun r hr=>?_;cases r with
  |c v=>rfl
  |t d=>
   show(only _ _).get d=(cR l tr i e).get d;rw[pU,if_pos (lu hr)];exact PE d (lu hr)
 obtain⟨hsel,GI⟩:=xL hc he;have hex:execOp a.eval o=execOp (yh ρ N (only (fH S l tr e) (gV x.args)) a).eval o:=by
  refine execOp_congr o hsel ?_;intro y hy;obtain⟨r,hr,hry⟩:=GI y hy;rw[(aD j.env hry).1,(aD ZN hry).1];cases r with
  |c v=>rfl
  |t d=>
   show real ρ ((fH S l tr e).get d)=real ρ ((only _ _).get d);rw[pU,if_pos (lu hr)]
 refine Eb (N:=N) (by rw[←l8];exact ug R.ok u.hx) ZN.size (by rw[w6 hc,w6 hc];exact hex) ?_;refine hop.sem o x.args hc ρ _ w _ N _ ro n hinv ZN ny _ _ ?_;intro qi w1 i1 x1 Dq;refine⟨real qi m.v,rfl,?_⟩
 let jd:cI:=fun b=>if(au tr h' i).next≤b∧b<(au tr h' (i+1)).next then qi b else ρ b
 have Pn:∀b,(au tr h' i).next≤b→b<(au tr h' (i+1)).next→jd b=qi b:=fun b h1 h2=>if_pos ⟨h1,h2⟩
 have Po:∀b,¬((au tr h' i).next≤b∧b<(au tr h' (i+1)).next)→jd b=ρ b:=fun b h1=>if_neg h1;have Jd:∀b,DS D l tr h' S b→¬((au tr h' i).next≤b∧b<(au tr h' (i+1)).next):=by
  rintro b (hb|⟨q,hq,hql,h1,h2⟩) ⟨h3,h4⟩
  ·have:=R.Nd b hb;have:=R.uu.low i;omega
  ·by_cases hqi:q=i
   ·subst hqi;rw[u.hsi] at hq;simp at hq
   ·by_cases hlt:q<i
    ·have:=R.uu.mono (q+1) i (by omega);omega
    ·have:=R.uu.mono (i+1) q (by omega);omega
 have gG:∀b,DS D l tr h' S b→jd b=ρ b:=fun b hb=>Po b (Jd b hb);have uW:∀b,grow (MI D l h tr h' S i) (au tr h' i).next (au tr h' (i+1)).next b→jd b=qi b:=by
  rintro b (hb|hb)
  ·rw[gG b hb.1,x1.bA b hb]
  ·exact Pn b hb.1 hb.2
 have hval:real jd m.v=real qi m.v:=cq uW _ Dq;have hsub:∀b,grow (MI D l h tr h' S i) (au tr h' i).next (au tr h' (i+1)).next b→DS D l tr h' (dy S i) b:=by
  rintro b (hb|hb)
  ·exact(kj u.lt b).2 (.inl hb.1)
  ·exact(kj u.lt b).2 (.inr hb)
 have hsplit:∀b,DS D l tr h' (dy S i) b→(grow (MI D l h tr h' S i) (au tr h' i).next (au tr h' (i+1)).next b∧b<(au tr h' (i+1)).next)∨(DS D l tr h' S b∧(au tr h' (i+1)).next≤b):=by
  intro b hb;rcases(kj u.lt b).1 hb with hb|hb
  ·have:=Jd b hb;by_cases hlt:b<(au tr h' i).next
   ·exact .inl ⟨.inl (Qp R hb hlt),by omega⟩
   ·exact .inr ⟨hb,by omega⟩
  ·exact .inl ⟨.inr hb,hb.2⟩
 have Jo:∀b,b<(au tr h' (i+1)).next→(cC l tr h' (i+1)).get b=(au tr h' (i+1)).get b:=fun b hb=>R.FG hb
 have BB:∀b,(au tr h' (i+1)).next≤b→(cC l tr h' (i+1)).get b=(cC l tr h' c).get b:=by
  intro b hb;rw[R.FF j.cut Jk b,R.VY u.hx he hb]
 have hwu:∀b,b<(au tr h' (i+1)).next→(cC l tr h' (i+1)).wr b=(au tr h' (i+1)).wr b:=fun b hb=>Heap.jN (Jo b hb)
 have hkeep:∀b,DS D l tr h' S b→(au tr h' (i+1)).next≤b→(cC l tr h' c).get b≠none→∀b0,MI D l h tr h' S i b0→(au tr h' i).wr b0=true→(ρ b0).bJ≠(ρ b).bJ:=by
  intro b hb hlt hnn b0 hb0 hw0;have:=pg R hb0;exact j.inv.apart b0 b hb0.1 hb (by omega) (by rw[←Heap.jN (hg b0 this)];exact hw0) hnn
 have kV:=j.pR u;have GG:J P H0 D N l bs e h tr h' ru w0 a0 (dy S i) (i+1) jd (a.put x.dst (real jd m.v)) w1:=by
  refine⟨hcs.1,kV,?_,?_,j.yY ?_,j.wF R u gG (cQ hsub _ Dq),by rw[←j.defers];exact put_defers⟩
  ·refine⟨?_,fun b hb=>R.PT hb,i1.low,?_,?_⟩
   ·intro b hb;rcases hsplit b hb with hb|hb
    ·exact Nat.lt_of_lt_of_le hb.2 (R.le_last _)
    ·exact j.inv.lt b hb.1
   ·intro b y hb hy;rcases hsplit b hb with hb|hb
    ·rw[Jo b hb.2] at hy;rw[uW b hb.1];exact bO (i1.bJ b y hb.1 hy) hsub uW rfl
    ·rw[BB b hb.2] at hy;rw[gG b hb.1];have Dg:=j.inv.bJ b y hb.1 hy;refine bO Dg (fun b hb=>(kj u.lt b).2 (.inl hb)) gG ?_;exact x1.frame _ (gP Dg) (hkeep b hb.1 hb.2 (by rw[hy];simp))
   ·intro b b' hb hb' hne hw hx;rcases hsplit b hb with hb|hb<;>rcases hsplit b' hb' with hb'|hb'
    ·rw[uW b hb.1,uW b' hb'.1];exact i1.apart b b' hb.1 hb'.1 hne (by rw[←hwu b hb.2];exact hw) (by rw[←Jo b' hb'.2];exact hx)
    ·rw[uW b hb.1,gG b' hb'.1];rw[BB b' hb'.2] at hx;rcases hb.1 with hd|hd
     ·rw[x1.bA b hd];have hwb:(au tr h' (i+1)).wr b=true:=by rw[←hwu b hb.2];exact hw
      have:=(x1.old b (pg R hd) (Heap.eP hwb)).2;exact hkeep b' hb'.1 hb'.2 hx b hd (this hwb)
     ·rcases x1.fresh b hd.1 hd.2 with hf|⟨b0,k1,k2,k3⟩
      ·have:=j.inv.N9 hb'.1 hx;omega
      ·rw[←k3];exact hkeep b' hb'.1 hb'.2 hx b0 k1 k2
    ·rw[gG b hb.1,uW b' hb'.1];rw[Heap.jN (BB b hb.2)] at hw;rw[Jo b' hb'.2] at hx;rcases hb'.1 with hd|hd
     ·rw[x1.bA b' hd];have hlt:=pg R hd;have:=(x1.old b' hlt hx).1;rw[hg b' hlt] at this;exact j.inv.apart b b' hb.1 hd.1 hne hw this
     ·rcases x1.fresh b' hd.1 hd.2 with hf|⟨b0,k1,k2,k3⟩
      ·have:=j.inv.V0 b hb.1 hw;omega
      ·rw[←k3];exact(hkeep b hb.1 hb.2 (Heap.eP hw) b0 k1 k2).symm
    ·rw[gG b hb.1,gG b' hb'.1];rw[Heap.jN (BB b hb.2)] at hw;rw[BB b' hb'.2] at hx;exact j.inv.apart b b' hb.1 hb'.1 hne hw hx
  ·have x0:=j.ext;have rO:=R.uu.low i;have Jc:∀b,DS D l tr h' S b→b<h.next→D b:=by
    rintro b (hb|⟨q,_,_,h1,_⟩) hlt
    ·exact hb
    ·have:=R.uu.low q;omega
   have place:∀b,DS D l tr h' S b→(cC l tr h' c).wr b=true→w0.heap.size≤(ρ b).bJ∨∃b0,D b0∧h.wr b0=true∧(ru b0).bJ=(ρ b).bJ:=by
    intro b hb hw;by_cases hlt:b<h.next
    ·have hd:=Jc b hb hlt;have:=(x0.old b hlt (Heap.eP hw)).2;exact .inr ⟨b,hd,this hw,by rw[x0.bA b hd]⟩
    ·exact x0.fresh b (by omega) (j.inv.lt b hb)
   have place':∀b,MI D l h tr h' S i b→(au tr h' i).wr b=true→w0.heap.size≤(ρ b).bJ∨∃b0,D b0∧h.wr b0=true∧(ru b0).bJ=(ρ b).bJ:=
    fun b hb hw=>place b hb.1 (by rw[←Heap.jN (hg b (pg R hb))];exact hw)
   refine⟨x0.next,?_,Nat.le_trans x0.size x1.size,?_,?_,?_,?_,x1.tape.trans x0.tape,x1.os.trans x0.os,x1.output.trans x0.output⟩
   ·intro b hb;rw[gG b (.inl hb)];exact x0.bA b hb
   ·intro r hr hf;rw[x1.frame r (Nat.lt_of_lt_of_le hr x0.size),x0.frame r hr hf];intro b hb hw;rcases place' b hb hw with hp|⟨b0,k1,k2,k3⟩
    ·omega
    ·rw[←k3];exact hf b0 k1 k2
   ·intro b hb hd;have hlt:b<(au tr h' i).next:=by omega
    rw[Jo b (by omega),x1.iD b hlt (fun hin=>hd (Jc b hin.1 hb)),hg b hlt];exact x0.iD b hb hd
   ·intro b hb hn;have hlt:b<(au tr h' i).next:=by omega
    rw[Jo b (by omega)] at hn;have k1:=x1.old b hlt hn;have k2:=x0.old b hb (by rw[←hg b hlt];exact k1.1);refine⟨k2.1,?_⟩;intro hw;rw[hwu b (by omega)] at hw;exact k2.2 (by rw[←Heap.jN (hg b hlt)];exact k1.2 hw)
   ·intro b qP iG;by_cases hnew:(au tr h' i).next≤b∧b<(au tr h' (i+1)).next
    ·rw[Pn b hnew.1 hnew.2];rcases x1.fresh b hnew.1 hnew.2 with hf|⟨b0,k1,k2,k3⟩
     ·exact .inl (Nat.le_trans x0.size hf)
     ·rw[←k3];exact place' b0 k1 k2
    ·rw[Po b hnew];exact x0.fresh b qP iG
  ·intro k y q bk hy hq hb hs hki UG;by_cases hlt:(au tr h' k).next<(au tr h' i).next
   ·rw[Jo _ (by omega),x1.iD _ hlt (fun hin=>R.Fh hy hq hb hs hin.1),hg _ hlt];exact UG
   ·have xQ:=R.BN hy hq hb (i:=k+1) (by omega);have:(au tr h' (i+1)).next≤(au tr h' k).next:=by
     rcases Nat.lt_or_ge k i with hlt'|hge
     ·have:=R.BN hy hq hb hlt';omega
     ·exact R.uu.mono (i+1) k (by omega)
    rw[BB _ this];exact UG
 have:=hk jd w1 GG;rw[hval] at this;rw[←l8];exact this
end
end Ads
end Go.Proofs.YtnlcabhfkpafmaaGreat
