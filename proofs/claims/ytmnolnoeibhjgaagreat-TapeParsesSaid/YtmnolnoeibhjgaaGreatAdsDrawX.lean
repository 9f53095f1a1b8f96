/-
  Regions that draw their order: what a trace in the text's order says of places and stores.
  Regions that draw their order: a run in the text's order exists, and what it shows of numbers.
  Regions that draw their order: the heap that all orders work on; what holds when some operations are done.
  Regions that draw their order: one operation more is done; those that change no heap.
  Regions that draw their order: an effect is done.
  Regions that draw their order: an effect is done, in any order.
-/
import Derived.Test.YtmnolnoeibhjgaaGreatAdsSem
set_option linter.unusedSimpArgs false
set_option linter.unusedVariables false
namespace Go.Proofs.YtmnolnoeibhjgaaGreat
namespace Ads
def aC(tr:List aK)(h':Heap)(i:Nat):Heap:=dQ (tr.drop i) h'
def cQ:List bp→List aK→Nat→Env→Env
 |x::l,m::tr,i+1,e=>cQ l tr i (e.put x.dst m.v)
 |_,_,_,e=>e
def fc:(Nat→Bool)→List bp→List aK→Env→Env
 |S,x::l,m::tr,e=>fc (fun j=>S (j+1)) l tr (cond (S 0) (e.put x.dst m.v) e)
 |_,_,_,e=>e
section
variable {P:Program} {H0:Nat}
theorem OT.length:∀{l:List bp} {e:Env} {h:Heap} {tr:List aK} {e':Env} {h':Heap},OT P H0 l e h tr e' h'→tr.length=l.length
 |[],_,_,tr,_,_,ho=>by cases tr<;>simp_all[OT]
 |x::l,_,_,tr,_,_,ho=>by
  cases tr with
  |nil=>simp[OT] at ho
  |cons m tr=>
   simp only[OT] at ho;rcases ho.2.2 with⟨_,_,_,hr⟩|⟨_,_,h1,_,hr⟩<;>simp[hr.length]
theorem OT.zero{l:List bp}{e:Env}{h:Heap}{tr:List aK}{e':Env}{h':Heap}(ho:OT P H0 l e h tr e' h'):aC tr h' 0=h:=by
 cases l with
 |nil=>cases tr<;>simp_all[OT,aC,dQ]
 |cons x l=>cases tr with
  |nil=>simp[OT] at ho
  |cons m tr=>simp only[OT] at ho;simp[aC,dQ,ho.1]
theorem OT.at:∀{l:List bp} {e:Env} {h:Heap} {tr:List aK} {e':Env} {h':Heap},OT P H0 l e h tr e' h'→∀{i:Nat} {x:bp},l[i]?=some x→
  ∃m,tr[i]?=some m∧m.h=aC tr h' i∧m.vals=x.args.map (cQ l tr i e).ev∧
   ((m.on=false∧bO x (cQ l tr i e)=false∧m.v=.undef∧aC tr h' (i+1)=aC tr h' i)∨
    (m.on=true∧bO x (cQ l tr i e)=true∧ux P H0 x.op m.vals (aC tr h' i) m.v (aC tr h' (i+1))))
 |[],_,_,_,_,_,_,i,x,hx=>by simp at hx
 |y::l,e,h,tr,e',h',ho,i,x,hx=>by
  cases tr with
  |nil=>simp[OT] at ho
  |cons m tr=>
   simp only[OT] at ho;cases i with
   |zero=>
    simp at hx;subst hx;refine⟨m,rfl,rfl,by simpa[cQ] using ho.2.1,?_⟩;rcases ho.2.2 with⟨h1,h2,h3,hr⟩|⟨h1,h2,h4,h3,hr⟩
    ·refine .inl ⟨h1,by simpa[cQ] using h2,h3,?_⟩;show aC tr h' 0=m.h;rw[hr.zero,ho.1]
    ·refine .inr ⟨h1,by simpa[cQ] using h2,?_⟩;show ux P H0 y.op m.vals m.h m.v (aC tr h' 0);rw[hr.zero,ho.1];exact h3
   |succ i=>
    simp at hx;rcases ho.2.2 with⟨h1,h2,h3,hr⟩|⟨h1,h2,h4,h3,hr⟩
    ·rw[←h3] at hr;obtain⟨m',g1,g2,g3,g4⟩:=hr.at hx;exact⟨m',by simpa using g1,by simpa[aC] using g2,by simpa[cQ] using g3,by simpa[cQ,aC] using g4⟩
    ·obtain⟨m',g1,g2,g3,g4⟩:=hr.at hx;exact⟨m',by simpa using g1,by simpa[aC] using g2,by simpa[cQ] using g3,by simpa[cQ,aC] using g4⟩
theorem OT.last{l:List bp}{e:Env}{h:Heap}{tr:List aK}{e':Env}{h':Heap}(ho:OT P H0 l e h tr e' h'){i:Nat}(hi:l.length≤i):aC tr h' i=h':=by
 unfold aC;rw[List.drop_eq_nil_of_le (by rw[ho.length];exact hi)];rfl
theorem OT.take:∀{l:List bp} {e:Env} {h:Heap} {tr:List aK} {e':Env} {h':Heap},OT P H0 l e h tr e' h'→∀i:Nat,
  OT P H0 (l.take i) e h (tr.take i) (cQ l tr i e) (aC tr h' i)
 |[],e,h,tr,e',h',ho,i=>by
  cases tr with
  |cons _ _=>simp[OT] at ho
  |nil=>simp only[OT] at ho;obtain⟨rfl,rfl⟩:=ho;cases i<;>simp[OT,cQ,aC,dQ]
 |y::l,e,h,tr,e',h',ho,i=>by
  cases tr with
  |nil=>simp[OT] at ho
  |cons m tr=>
   cases i with
   |zero=>
    have:=ho.zero;simp[OT,cQ,this]
   |succ i=>
    simp only[OT] at ho;simp only[List.take_succ_cons,OT,cQ];refine⟨ho.1,ho.2.1,?_⟩;rcases ho.2.2 with⟨h1,h2,h3,hr⟩|⟨h1,h2,h4,h3,hr⟩
    ·refine .inl ⟨h1,h2,h3,?_⟩;have:=hr.take i;rw[h3];simpa[aC] using this
    ·refine .inr ⟨h1,h2,h4,h3,?_⟩;have:=hr.take i;simpa[aC] using this
theorem ta:∀{l:List bp} {e:Env} {h:Heap} {tr:List aK} {e':Env} {h':Heap},OT P H0 l e h tr e' h'→cQ l tr l.length e=e'
 |[],e,h,tr,e',h',ho=>by cases tr<;>simp_all[OT,cQ]
 |y::l,e,h,tr,e',h',ho=>by
  cases tr with
  |nil=>simp[OT] at ho
  |cons m tr=>
   simp only[OT] at ho;simp only[List.length_cons,cQ];rcases ho.2.2 with⟨h1,h2,h3,hr⟩|⟨h1,h2,h4,h3,hr⟩
   ·rw[h3];exact ta hr
   ·exact ta hr
theorem fM{e:Env}{d:Option Nat}{v:AV}{t:Nat}(h:d≠some t):(e.put d v).get t=e.get t:=by rw[ej,if_neg h]
theorem mP:∀(l:List bp) (tr:List aK) (S:Nat→Bool) (i:Nat) (d:Nat) (e1 e2:Env),e1.get d=e2.get d→tr.length=l.length→
  (∀j x,l[j]?=some x→x.dst=some d→S j=decide (j<i))→(fc S l tr e1).get d=(cQ l tr i e2).get d
 |[],tr,S,i,d,e1,e2,he,hl,hs=>by cases tr<;>simp_all[fc,cQ]
 |x::l,[],S,i,d,e1,e2,he,hl,hs=>by simp at hl
 |x::l,m::tr,S,i,d,e1,e2,he,hl,hs=>by
  simp only[fc];cases i with
  |zero=>
   have h0:(cond (S 0) (e1.put x.dst m.v) e1).get d=e2.get d:=by
    by_cases hx:x.dst=some d
    ·have:=hs 0 x rfl hx;simp at this;rw[this];exact he
    ·cases S 0
     ·exact he
     ·simp only[cond_true];rw[fM hx];exact he
   have:=mP l tr (fun j=>S (j+1)) 0 d _ e2 h0 (by simpa using hl) (fun j y hy hd=>by
    have:=hs (j+1) y (by simpa using hy) hd;simpa using this)
   rw[this];cases l<;>cases tr<;>simp[cQ]
  |succ i=>
   simp only[cQ];refine mP l tr (fun j=>S (j+1)) i d _ _ ?_ (by simpa using hl) (fun j y hy hd=>by
    have:=hs (j+1) y (by simpa using hy) hd;simpa using this)
   by_cases hx:x.dst=some d
   ·have:=hs 0 x rfl hx;simp at this;rw[this];simp only[cond_true];rw[ej,ej,if_pos hx,if_pos hx]
   ·rw[fM hx];cases S 0
    ·exact he
    ·simp only[cond_true];rw[fM hx];exact he
theorem tT:∀(l:List bp) (tr:List aK) (S S':Nat→Bool) (d:Nat) (e1 e2:Env),e1.get d=e2.get d→tr.length=l.length→
  (∀j x,l[j]?=some x→x.dst=some d→S j=S' j)→(fc S l tr e1).get d=(fc S' l tr e2).get d
 |[],tr,S,S',d,e1,e2,he,hl,hs=>by cases tr<;>simp_all[fc]
 |x::l,[],S,S',d,e1,e2,he,hl,hs=>by simp at hl
 |x::l,m::tr,S,S',d,e1,e2,he,hl,hs=>by
  simp only[fc];refine tT l tr _ _ d _ _ ?_ (by simpa using hl) (fun j y hy hd=>hs (j+1) y (by simpa using hy) hd);by_cases hx:x.dst=some d
  ·rw[hs 0 x rfl hx];cases S' 0
   ·exact he
   ·simp only[cond_true];rw[ej,ej,if_pos hx,if_pos hx]
  ·cases S 0<;>cases S' 0<;>simp only[cond_true,cond_false,fM hx]<;>exact he
theorem xR:∀(l:List bp) (tr:List aK) (S S':Nat→Bool) (i:Nat) (x:bp) (m:aK) (e:Env) (d:Nat),tr.length=l.length→l[i]?=some x→tr[i]?=some m→
  (∀j,S' j=(S j||decide (j=i)))→S i=false→(∀j y,i<j→l[j]?=some y→x.dst=some d→y.dst=some d→S j=false)→
  (fc S' l tr e).get d=((fc S l tr e).put x.dst m.v).get d
 |[],tr,S,S',i,x,m,e,d,hl,hx,hm,hs,hsi,DG=>by simp at hx
 |y::l,[],S,S',i,x,m,e,d,hl,hx,hm,hs,hsi,DG=>by simp at hl
 |y::l,n::tr,S,S',i,x,m,e,d,hl,hx,hm,hs,hsi,DG=>by
  simp only[fc];cases i with
  |zero=>
   simp at hx hm;subst hx;subst hm;rw[hs 0,hsi];simp only[decide_true,Bool.or_true,cond_true,cond_false];by_cases hd:y.dst=some d
   ·rw[ej,if_pos hd];have:(fc (fun j=>S' (j+1)) l tr (e.put y.dst n.v)).get d=(cQ l tr 0 (e.put y.dst n.v)).get d:=by
     refine mP l tr _ 0 d _ _ rfl (by simpa using hl) (fun j z hz T6=>?_);rw[hs (j+1),DG (j+1) z (by omega) (by simpa using hz) hd T6];simp
    rw[this];have:cQ l tr 0 (e.put y.dst n.v)=e.put y.dst n.v:=by cases l<;>cases tr<;>simp[cQ]
    rw[this,ej,if_pos hd]
   ·rw[fM hd];refine tT l tr _ _ d _ _ (fM hd) (by simpa using hl) (fun j z hz T6=>?_);rw[hs (j+1)];simp
  |succ i=>
   simp at hx hm;have h0:S' 0=S 0:=by rw[hs 0];simp
   rw[h0];refine xR l tr _ _ i x m _ d (by simpa using hl) hx hm (fun j=>?_) hsi (fun j z hj hz T5 T6=>DG (j+1) z (by omega) (by simpa using hz) T5 T6);rw[hs (j+1)];simp
def uAt(l:List bp)(tr:List aK)(h':Heap)(c:Nat):Heap:=cA l tr h' c
theorem rz:∀(l:List bp) (tr:List aK) (t t':Tr bP) (b:Nat),t.get b=t'.get b→(fu l tr t).get b=(fu l tr t').get b
 |[],tr,t,t',b,h=>by cases tr<;>simpa[fu] using h
 |x::l,[],t,t',b,h=>by simpa[fu] using h
 |x::l,m::tr,t,t',b,h=>by
  simp only[fu];split
  ·refine rz l tr _ _ b ?_;rw[Tr.aT,Tr.aT,h]
  ·exact rz l tr _ _ b h
theorem uK:∀(l:List bp) (tr:List aK) (t:Tr bP) (b:Nat),(∀(j:Nat) (x:bp) (m:aK),l[j]?=some x→tr[j]?=some m→dL x m≠none→m.h.next≠b)→
  (fu l tr t).get b=t.get b
 |[],tr,t,b,h=>by cases tr<;>simp[fu]
 |x::l,[],t,b,h=>by simp[fu]
 |x::l,m::tr,t,b,h=>by
  have ht:=fun t=>uK l tr t b (fun j y n hy hn=>h (j+1) y n (by simpa using hy) (by simpa using hn));simp only[fu];split
  ·rename_i bk hb;rw[ht,Tr.aT,if_neg];intro e;exact h 0 x m rfl rfl (by rw[hb];simp) e.symm
  ·exact ht t
end
end Ads
end Go.Proofs.YtmnolnoeibhjgaaGreat
set_option linter.unusedSimpArgs false
set_option linter.unusedVariables false
namespace Go.Proofs.YtmnolnoeibhjgaaGreat
namespace Ads
section
variable {P:Program} {H0:Nat} {ro:Option Nat} {n:Nat}
theorem yM(ro:Option Nat)(n:Nat):(FW ro).room n:=fun _ h=>by simp[FW,Fence.wide] at h
theorem BP{o:Oper}{a:Act}{w:World}{next:Act→World→Prop}{Q:Exit→Act→World→Prop}(h:o.wpIn (FW ro) n P a w next Q):
  (∃a' w',next a' w')∨∃ex a' w',Q ex a' w':=by
 have h:=h.2;generalize(o.semAt (FW ro).round a.eval).run P w=r at h;cases r with
 |ok x w'=>
  cases x<;>simp only[Oper.uponIn] at h
  case value v=>exact .inl ⟨_,_,h⟩
  case skip=>exact .inl ⟨_,_,h⟩
  case defer d=>exact .inl ⟨_,_,h⟩
  case enter f args=>
   obtain⟨e,w'',fr,hr,_⟩:=h.2.2 [] (yM _ _);cases e with
   |returned v=>exact .inl ⟨_,_,hr⟩
   |panicked c=>exact .inr ⟨_,_,_,hr⟩
   |outgrown=>obtain⟨a1,w1,hq⟩:=hr;exact .inr ⟨_,_,_,hq⟩
  case row row args=>
   obtain⟨v,w'',hr,_⟩:=h.2 (Frame.ofRow P row args .normal) [] (yM _ _);exact .inl ⟨_,_,hr⟩
  case round l f tmps as bd=>
   obtain⟨e,w'',hr,_⟩:=h.2.2 (Frame.ofRow P "" #[] .normal) [] (yM _ _);cases e with
   |returned v=>exact .inl ⟨_,_,hr⟩
   |panicked c=>exact .inr ⟨_,_,_,hr⟩
   |outgrown=>obtain⟨a1,w1,hq⟩:=hr;exact .inr ⟨_,_,_,hq⟩
  all_goals (first|exact h.elim|skip)
 |halt x w'=>
  cases x<;>simp only[Oper.uponIn] at h
  case panic v=>exact .inr ⟨_,_,_,h⟩
  all_goals (first|exact h.elim|skip)
theorem ko{ops:Array Oper}{Q:Exit→Act→World→Prop}:∀{os:List Oper} {a:Act} {w:World},wpListIn (FW ro) n P ops Q os a w→∃ex a' w',Q ex a' w'
 |[],a,w,h=>⟨_,_,_,h⟩
 |o::os,a,w,h=>by
  unfold wpListIn at h;split at h
  ·rcases BP h with⟨a',w',h'⟩|h'
   ·exact ko h'
   ·exact h'
  ·exact ko h.2
theorem vW{N:Nat}:∀{l:List bp} (i:Nat),cY N l=true→cY N (l.take i)=true
 |[],i,h=>by simp[cY]
 |x::l,0,h=>by simp[cY]
 |x::l,i+1,h=>by
  simp only[cY,List.take_succ_cons,Bool.and_eq_true] at h⊢;exact⟨h.1,vW i h.2⟩
theorem vV{N:Nat}:∀{l:List bp} (i:Nat),cY N l=true→cY N (l.drop i)=true
 |[],i,h=>by simp[cY]
 |x::l,0,h=>by simpa using h
 |x::l,i+1,h=>by
  simp only[cY,Bool.and_eq_true] at h;simpa using vV i h.2
theorem tG{N:Nat}:∀{l:List bp} {i:Nat} {x:bp},cY N l=true→l[i]?=some x→vk N x.dst=true
 |[],i,x,h,hx=>by simp at hx
 |y::l,0,x,h,hx=>by simp only[cY,Bool.and_eq_true] at h;simp at hx;subst hx;exact h.1
 |y::l,i+1,x,h,hx=>by simp only[cY,Bool.and_eq_true] at h;simp at hx;exact tG h.2 hx
theorem OT.sU{l:List bp}{e:Env}{h:Heap}{tr:List aK}{e':Env}{h':Heap}(ho:OT P H0 l e h tr e' h'){ops:Array Oper}{os:List Oper}
  (hos:os.map (bE P ops)=l){N:Nat}(hok:cY N l=true){ρ:cG}{D:Dom}{w:World}{a:Act}(hi:Inv P H0 ρ D h w)(he:bG ρ D N e a)(i:Nat):
  ∃ρ' w' a',Inv P H0 ρ' (grow D h.next (aC tr h' i).next) (aC tr h' i) w'∧bG ρ' (grow D h.next (aC tr h' i).next) N (cQ l tr i e) a'∧h.next≤(aC tr h' i).next:=by
 have:=nP (ro:=none) (n:=0) (ho.take i) (ops:=ops) (os:=os.take i) (by rw[List.map_take,hos]) (vW i hok) hi he
  (Q:=fun _ a' w'=>∃ρ',Inv P H0 ρ' (grow D h.next (aC tr h' i).next) (aC tr h' i) w'∧bG ρ' (grow D h.next (aC tr h' i).next) N (cQ l tr i e) a'∧h.next≤(aC tr h' i).next)
  (fun ρ' w' a' g1 g2 g3 g4=>⟨ρ',g1,g3,g2.next⟩)
 obtain⟨_,a',w',ρ',g⟩:=ko this;exact⟨ρ',w',a',g⟩
theorem OT.drop:∀{l:List bp} {e:Env} {h:Heap} {tr:List aK} {e':Env} {h':Heap},OT P H0 l e h tr e' h'→∀i:Nat,
  OT P H0 (l.drop i) (cQ l tr i e) (aC tr h' i) (tr.drop i) e' h'
 |[],e,h,tr,e',h',ho,i=>by
  cases tr with
  |cons _ _=>simp[OT] at ho
  |nil=>simp only[OT] at ho;obtain⟨rfl,rfl⟩:=ho;cases i<;>simp[OT,cQ,aC,dQ]
 |y::l,e,h,tr,e',h',ho,i=>by
  cases tr with
  |nil=>simp[OT] at ho
  |cons m tr=>
   cases i with
   |zero=>
    have:=ho.zero;simpa[cQ,this] using ho
   |succ i=>
    simp only[OT] at ho;simp only[List.drop_succ_cons,cQ];rcases ho.2.2 with⟨h1,h2,h3,hr⟩|⟨h1,h2,h4,h3,hr⟩
    ·have:=hr.drop i;rw[h3];exact this
    ·exact hr.drop i
theorem AS(tr:List aK)(h':Heap)(i j:Nat):aC (tr.drop i) h' j=aC tr h' (i+j):=by
 unfold aC;rw[List.drop_drop]
structure Y0(P:Program)(H0:Nat)(D:Dom)(N:Nat)(l:List bp)(e:Env)(h:Heap)(tr:List aK)(h':Heap):Prop where
 mono:∀i j,i≤j→(aC tr h' i).next≤(aC tr h' j).next
 low:∀i,h.next≤(aC tr h' i).next
 top:∀i b,(aC tr h' i).next≤b→(aC tr h' i).get b=none
 run:∀i,∃ρ' w' a',Inv P H0 ρ' (grow D h.next (aC tr h' i).next) (aC tr h' i) w'∧bG ρ' (grow D h.next (aC tr h' i).next) N (cQ l tr i e) a'
theorem OT.tN{l:List bp}{e:Env}{h:Heap}{tr:List aK}{e':Env}{h':Heap}(ho:OT P H0 l e h tr e' h'){ops:Array Oper}{os:List Oper}
  (hos:os.map (bE P ops)=l){N:Nat}(hok:cY N l=true){ρ:cG}{D:Dom}{w:World}{a:Act}(hi:Inv P H0 ρ D h w)(he:bG ρ D N e a):
  Y0 P H0 D N l e h tr h' where
 mono:=fun i j hij=>by
  obtain⟨ρ',w',a',g1,g2,g3⟩:=ho.sU hos hok hi he i;obtain⟨_,_,_,_,_,g⟩:=(ho.drop i).sU (os:=os.drop i) (by rw[List.map_drop,hos]) (vV i hok) g1 g2 (j-i);rw[AS] at g;have:i+(j-i)=j:=by omega
  rw[this] at g;exact g
 low:=fun i=>by
  obtain⟨_,_,_,_,_,g⟩:=ho.sU hos hok hi he i;exact g
 top:=fun i=>by
  obtain⟨_,_,_,g,_,_⟩:=ho.sU hos hok hi he i;exact g.top
 run:=fun i=>by
  obtain⟨ρ',w',a',g1,g2,_⟩:=ho.sU hos hok hi he i;exact⟨ρ',w',a',g1,g2⟩
end
mutual
theorem jE{D D':Dom}:∀{v:AV},v.aW D→v.aW D'→v.aW fun b=>D b∧D' b
 |.bool _,_,_|.int _ _,_,_|.str _,_,_|.bJ,_,_|.az,_,_|.fE _,_,_|.jg,_,_|.iZ,_,_|.ja,_,_=>by simp[AV.aW]
 |.ptr b o,h,h'=>by simp only[AV.aW] at*;exact⟨h,h'⟩
 |.sl b o l c op,h,h'=>by simp only[AV.aW] at*;exact⟨h,h'⟩
 |.rest b o k,h,h'=>by simp only[AV.aW] at*;exact⟨h,h'⟩
 |.map b,h,h'=>by simp only[AV.aW] at*;exact⟨h,h'⟩
 |.yield b,h,h'=>by simp only[AV.aW] at*;exact⟨h,h'⟩
 |.func fn first aO,h,h'=>by
  simp only[AV.aW] at*;exact⟨h.1,kX h.2.1 h'.2.1,kX h.2.2 h'.2.2⟩
 |.iface t v,h,h'=>by
  simp only[AV.aW] at*;exact jE h h'
 |.agg cs,h,h'=>by
  simp only[AV.aW] at*;exact kX h h'
 |.dO cs,h,h'=>by
  simp only[AV.aW] at*;exact kX h h'
 |.fz _ _,h,h'=>by simp only[AV.aW] at h
 |.fp _ _,h,h'=>by simp only[AV.aW] at h
theorem kX{D D':Dom}:∀{l:List AV},bl D l→bl D' l→bl (fun b=>D b∧D' b) l
 |[],_,_=>by simp[bl]
 |v::vs,h,h'=>by
  simp only[bl] at*;exact⟨jE h.1 h'.1,kX h.2 h'.2⟩
end
theorem xg{P:Program}{H0:Nat}{ρ ρ':cG}{D D':Dom}{L L':Loc}{x:bP}{w w':World}(h:ei P H0 ρ D L x w)(h':ei P H0 ρ' D' L' x w'):
  ei P H0 ρ (fun b=>D b∧D' b) L x w:=by
 cases x with
 |cells vs wr es=>
  obtain⟨c,t,fr,hc,h1,h2⟩:=h;obtain⟨c',t',fr',jC,K0,xo⟩:=h';exact⟨c,t,fr,hc,fun i v hv=>⟨(h1 i v hv).1,jE (h1 i v hv).2 (K0 i v hv).2⟩,h2⟩
 |map es bs c=>
  obtain⟨ms,k,hc,h0,h1,h2,h3⟩:=h;obtain⟨ms',k',jC,h0',K0,xo,_⟩:=h';exact⟨ms,k,hc,h0,h1,fun p hp=>⟨jE (h2 p hp).1 (xo p hp).1,jE (h2 p hp).2 (xo p hp).2⟩,h3⟩
 |iter m since seen last=>
  obtain⟨h0,hm,ho,sn,hc,hs⟩:=h;exact⟨h0,⟨hm,h'.2.1⟩,ho,sn,hc,hs⟩
 |loop st cw e ps a b=>
  obtain⟨h0,l,hl,g1,g2,g3,g4,g5⟩:=h;obtain⟨h0',l',hl',g1',Qa,g3',g4',g5'⟩:=h';exact⟨h0,l,hl,g1,g2,g3,fun i=>jE (g4 i) (g4' i),g5⟩
 |defers=>exact h
end Ads
end Go.Proofs.YtmnolnoeibhjgaaGreat
set_option linter.unusedSimpArgs false
set_option linter.unusedVariables false
namespace Go.Proofs.YtmnolnoeibhjgaaGreat
namespace Ads
def oB(bs:List Nat)(j i:Nat):Prop:=(bs.getD j 0).testBit i=true
structure Rg(P:Program)(H0:Nat)(D:Dom)(N:Nat)(l:List bp)(bs:List Nat)(e:Env)(h:Heap)(tr:List aK)(e':Env)(h':Heap):Prop where
 ot:OT P H0 l e h tr e' h'
 tN:Y0 P H0 D N l e h tr h'
 Jr:∀b,D b→b<h.next
 pairs:∀(i j:Nat) (x y:bp),i<j→l[i]?=some x→l[j]?=some y→oB bs j i∨(¬(bS x.op=true∧bS y.op=true)∧nu x y=true)
 ok:cY N l=true
section
variable {P:Program} {H0:Nat} {D:Dom} {N:Nat} {l:List bp} {bs:List Nat} {e:Env} {h:Heap} {tr:List aK} {e':Env} {h':Heap}
theorem Rg.le_last(R:Rg P H0 D N l bs e h tr e' h')(c:Nat):(aC tr h' c).next≤h'.next:=by
 by_cases hc:c≤l.length
 ·have:=R.tN.mono c l.length hc
  rwa [R.ot.last (Nat.le_refl _)] at this
 ·rw[R.ot.last (by omega)];exact Nat.le_refl _
theorem Rg.made(R:Rg P H0 D N l bs e h tr e' h'){j:Nat}{x:bp}{m:aK}{b:bP}(hx:l[j]?=some x)(hm:tr[j]?=some m)(hb:dL x m=some b):
  (∃o f,x.op=.a o∧m.on=true∧aI o m.vals=some (b,f)∧m.v=f (aC tr h' j).next)∧aC tr h' (j+1)=(aC tr h' j).new b∧m.h=aC tr h' j:=by
 obtain⟨m',g1,g2,g3,g4⟩:=R.ot.at hx;rw[hm] at g1;cases g1
 unfold dL at hb;split at hb
 ·rename_i o ho gb;simp only[Option.map_eq_some_iff] at hb;obtain⟨⟨b',f⟩,hb,rfl⟩:=hb;rcases g4 with g4|⟨k1,k2,k3⟩
  ·rw[g4.1] at gb;simp at gb
  ·rw[ho] at k3;obtain⟨x',f',q1,q2,q3⟩:=k3;rw[hb] at q1;cases q1
   exact⟨⟨o,f,ho,gb,hb,q2⟩,q3,g2⟩
 ·simp at hb
theorem Rg.still(R:Rg P H0 D N l bs e h tr e' h'){j:Nat}{x:bp}{m:aK}(hx:l[j]?=some x)(hm:tr[j]?=some m)(hb:dL x m=none)(he:bS x.op=false):
  aC tr h' (j+1)=aC tr h' j:=by
 obtain⟨m',g1,g2,g3,g4⟩:=R.ot.at hx;rw[hm] at g1;cases g1
 rcases g4 with g4|⟨k1,k2,k3⟩
 ·exact g4.2.2.2
 ·cases ho:x.op with
  |p o=>rw[ho] at k3;exact k3.2
  |r o=>rw[ho] at k3;exact k3.2
  |a o=>
   rw[ho] at k3;obtain⟨x',f',q1,q2,q3⟩:=k3;unfold dL at hb;rw[ho,k1] at hb;simp[q1] at hb
  |bad=>rw[ho] at k3;exact k3.elim
  |e o=>rw[ho] at he;simp[bS] at he
  |call=>rw[ho] at he;simp[bS] at he
  |invoke s=>rw[ho] at he;simp[bS] at he
  |panic=>rw[ho] at he;simp[bS] at he
theorem Rg.Eg(R:Rg P H0 D N l bs e h tr e' h'){j:Nat}{x:bp}(hx:l[j]?=some x):∃m,tr[j]?=some m:=by
 obtain⟨m,g,_⟩:=R.ot.at hx;exact⟨m,g⟩
theorem Rg.A9(R:Rg P H0 D N l bs e h tr e' h'){j i:Nat}{x:bp}{m:aK}{b:bP}(hx:l[j]?=some x)(hm:tr[j]?=some m)(hb:dL x m=some b)(hji:j<i):
  (aC tr h' j).next<(aC tr h' i).next:=by
 have h1:=R.made hx hm hb;have h2:=R.tN.mono (j+1) i (by omega);rw[h1.2.1] at h2;simp at h2;omega
theorem Rg.El(R:Rg P H0 D N l bs e h tr e' h'){c b:Nat}(hb:b<(aC tr h' c).next):(cA l tr h' c).get b=(aC tr h' c).get b:=by
 refine uK _ _ _ b ?_;intro j x m hx hm hne;rw[List.getElem?_drop] at hx hm;obtain⟨bk,Cy⟩:=Option.ne_none_iff_exists'.1 hne;rw[(R.made hx hm Cy).2.2];have:=R.tN.mono c (c+j) (by omega);omega
theorem Bm:∀(l:List bp) (tr:List aK) (t:Tr bP) (j:Nat) (x:bp) (m:aK) (b:bP),l[j]?=some x→tr[j]?=some m→dL x m=some b→
  (∀(i:Nat) (y:bp) (n:aK),j<i→l[i]?=some y→tr[i]?=some n→dL y n≠none→n.h.next≠m.h.next)→(fu l tr t).get m.h.next=some b
 |[],tr,t,j,x,m,b,hx,hm,hb,hi=>by simp at hx
 |y::l,[],t,j,x,m,b,hx,hm,hb,hi=>by simp at hm
 |y::l,n::tr,t,0,x,m,b,hx,hm,hb,hi=>by
  simp at hx hm;subst hx;subst hm;simp only[fu,hb];rw[uK,Tr.aT,if_pos rfl];intro i z k hz hk hne;exact hi (i+1) z k (by omega) (by simpa using hz) (by simpa using hk) hne
 |y::l,n::tr,t,j+1,x,m,b,hx,hm,hb,hi=>by
  have:=fun t=>Bm l tr t j x m b (by simpa using hx) (by simpa using hm) hb (fun i z k hlt hz hk=>hi (i+1) z k (by omega) (by simpa using hz) (by simpa using hk));simp only[fu];split
  ·exact this _
  ·exact this _
theorem Rg.PG(R:Rg P H0 D N l bs e h tr e' h'){c j:Nat}{x:bp}{m:aK}{b:bP}(hx:l[j]?=some x)(hm:tr[j]?=some m)(hb:dL x m=some b)(hc:c≤j):
  (cA l tr h' c).get (aC tr h' j).next=some b:=by
 have A2:=(R.made hx hm hb).2.2;have:=Bm (l.drop c) (tr.drop c) (dQ (tr.drop c) h').m (j-c) x m b (by rw[List.getElem?_drop];rw[show c+(j-c)=j by omega];exact hx)
  (by rw[List.getElem?_drop];rw[show c+(j-c)=j by omega];exact hm) hb (fun i y n hlt hy hn hne=>by
   rw[List.getElem?_drop] at hy hn;obtain⟨bk,Cy⟩:=Option.ne_none_iff_exists'.1 hne;rw[(R.made hy hn Cy).2.2,A2];have:=R.A9 hx hm hb (i:=c+i) (by omega);omega)
 rw[A2] at this;exact this
theorem Rg.Lv(R:Rg P H0 D N l bs e h tr e' h'){c b:Nat}(hb:h'.next≤b):(cA l tr h' c).get b=none:=by
 have:(cA l tr h' c).get b=(aC tr h' c).get b:=by
  refine uK _ _ _ b ?_;intro j x m hx hm hne;rw[List.getElem?_drop] at hx hm;obtain⟨bk,Cy⟩:=Option.ne_none_iff_exists'.1 hne;rw[(R.made hx hm Cy).2.2];have h1:=R.A9 hx hm Cy (i:=c+j+1) (by omega);have h2:=R.le_last (c+j+1);omega
 rw[this];exact R.tN.top c b (Nat.le_trans (R.le_last c) hb)
theorem drop_cons{α:Type}{l:List α}{i:Nat}{x:α}(h:l[i]?=some x):l.drop i=x::l.drop (i+1):=by
 obtain⟨hlt,rfl⟩:=List.getElem?_eq_some_iff.1 h;exact List.drop_eq_getElem_cons hlt
theorem Rg.PI(R:Rg P H0 D N l bs e h tr e' h'){i:Nat}{x:bp}(hx:l[i]?=some x)(he:bS x.op=false)(b:Nat):
  (cA l tr h' i).get b=(cA l tr h' (i+1)).get b:=by
 obtain⟨m,hm⟩:=R.Eg hx;show(fu (l.drop i) (tr.drop i) (aC tr h' i).m).get b=(fu (l.drop (i+1)) (tr.drop (i+1)) (aC tr h' (i+1)).m).get b;rw[drop_cons hx,drop_cons hm];simp only[fu];cases hb:dL x m with
 |none=>simp only[];rw[R.still hx hm hb he]
 |some bk=>
  simp only[];have:=R.made hx hm hb;rw[this.2.1,this.2.2];rfl
theorem Rg.tO(R:Rg P H0 D N l bs e h tr e' h'){c:Nat}(b:Nat):∀(k:Nat),(∀j x,c≤j→j<c+k→l[j]?=some x→bS x.op=false)→(cA l tr h' c).get b=(cA l tr h' (c+k)).get b
 |0,_=>rfl
 |k+1,hn=>by
  rw[R.tO b k (fun j x h1 h2=>hn j x h1 (by omega))];cases hx:l[c+k]? with
  |some x=>exact R.PI hx (hn (c+k) x (by omega) (by omega) hx) b
  |none=>
   have hlen:l.length≤c+k:=List.getElem?_eq_none_iff.1 hx;show(fu (l.drop (c+k)) (tr.drop (c+k)) (aC tr h' (c+k)).m).get b=(fu (l.drop (c+k+1)) (tr.drop (c+k+1)) (aC tr h' (c+k+1)).m).get b;have e1:l.drop (c+k)=[]:=List.drop_eq_nil_of_le hlen;have e2:l.drop (c+k+1)=[]:=List.drop_eq_nil_of_le (by omega);rw[R.ot.last hlen,R.ot.last (i:=c+k+1) (by omega),e1,e2];simp[fu]
theorem Rg.SS(R:Rg P H0 D N l bs e h tr e' h'){i:Nat}{x:bp}(hx:l[i]?=some x)(he:bS x.op=true){b:Nat}(hb:(aC tr h' (i+1)).next≤b):
  (cA l tr h' i).get b=(cA l tr h' (i+1)).get b:=by
 obtain⟨m,hm⟩:=R.Eg hx;show(fu (l.drop i) (tr.drop i) (aC tr h' i).m).get b=(fu (l.drop (i+1)) (tr.drop (i+1)) (aC tr h' (i+1)).m).get b;rw[drop_cons hx,drop_cons hm];have hn:dL x m=none:=by
  unfold dL;split
  ·rename_i o ho gb;rw[ho] at he;simp[bS] at he
  ·rfl
 simp only[fu,hn];refine rz _ _ _ _ b ?_;have h1:=R.tN.top (i+1) b hb;have h2:=R.tN.top i b (Nat.le_trans (R.tN.mono i (i+1) (by omega)) hb);unfold Heap.get at h1 h2;rw[h1,h2]
def Cut(l:List bp)(S:Nat→Bool)(c:Nat):Prop:=∀j x,l[j]?=some x→bS x.op=true→(S j=true↔j<c)
theorem Rg.Ek(R:Rg P H0 D N l bs e h tr e' h'){S:Nat→Bool}{c c':Nat}(h1:Cut l S c)(h2:Cut l S c')(b:Nat):(cA l tr h' c).get b=(cA l tr h' c').get b:=by
 have key:∀c c',c≤c'→Cut l S c→Cut l S c'→(cA l tr h' c).get b=(cA l tr h' c').get b:=by
  intro c c' hle g1 g2;have:=R.tO (c:=c) b (c'-c) (fun j x hj1 hj2 hx=>by
   cases hx':bS x.op with
   |false=>rfl
   |true=>
    have a1:=g1 j x hx hx';have a2:=g2 j x hx hx';have:=a1.1 (a2.2 (by omega));omega)
  rwa [show c+(c'-c)=c' by omega] at this
 by_cases hle:c≤c'
 ·exact key c c' hle h1 h2
 ·exact(key c' c (by omega) h2 h1).symm
def DS(D:Dom)(l:List bp)(tr:List aK)(h':Heap)(S:Nat→Bool):Dom:=fun b=>
 D b∨∃j,S j=true∧j<l.length∧(aC tr h' j).next≤b∧b<(aC tr h' (j+1)).next
structure J(P:Program)(H0:Nat)(D:Dom)(N:Nat)(l:List bp)(bs:List Nat)(e:Env)(h:Heap)(tr:List aK)(h':Heap)(qM:cG)(w0:World)(a0:Act)
  (S:Nat→Bool)(c:Nat)(ρ:cG)(a:Act)(w:World):Prop where
 cut:Cut l S c
 closed:∀j,S j=true→∀i,oB bs j i→S i=true
 inv:Inv P H0 ρ (DS D l tr h' S) (cA l tr h' c) w
 ext:Ext qM D h w0 ρ (cA l tr h' c) w
 made:∀(j:Nat) (x:bp) (m:aK) (bk:bP),l[j]?=some x→tr[j]?=some m→dL x m=some bk→S j=false→(cA l tr h' c).get (aC tr h' j).next=some bk
 env:bG ρ (DS D l tr h' S) N (fc S l tr e) a
 defers:a.defers=a0.defers
theorem Inv.congr{ρ:cG}{h2:Heap}{w:World}(i:Inv P H0 ρ D h w)(hn:h2.next=h.next)(hg:∀b,h2.get b=h.get b):Inv P H0 ρ D h2 w:=by
 have gp:∀b,h2.wr b=h.wr b:=fun b=>by simp only[Heap.wr,hg]
 refine⟨fun b hb=>by rw[hn];exact i.lt b hb,fun b hb=>by rw[hg];exact i.top b (by omega),i.low,fun b x hb hx=>i.bH b x hb (by rw[←hg];exact hx),fun b b' hb hb' hne hw hx=>?_⟩;rw[gp] at hw;rw[hg] at hx;exact i.apart b b' hb hb' hne hw hx
theorem Ext.congr{ρ ρ':cG}{h2 h3:Heap}{w w':World}(x:Ext ρ D h w ρ' h2 w')(hn:h3.next=h2.next)(hg:∀b,h3.get b=h2.get b):Ext ρ D h w ρ' h3 w':=by
 have gp:∀b,h3.wr b=h2.wr b:=fun b=>by simp only[Heap.wr,hg]
 exact⟨by rw[hn];exact x.next,x.bA,x.size,x.frame,fun b h1 h2=>by rw[hg];exact x.iz b h1 h2,fun b h1 h2=>by rw[hg] at h2;rw[gp];exact x.old b h1 h2,
  fun b h1 h2=>x.fresh b h1 (by omega),x.tape,x.os,x.output⟩
theorem bG.congr{ρ:cG}{e1 e2:Env}{a:Act}(he:bG ρ D N e1 a)(hg:∀d,e2.get d=e1.get d):bG ρ D N e2 a:=
 ⟨he.size,fun i=>by rw[hg];exact he.get i,fun i=>by rw[hg];exact he.dom i⟩
theorem Rg.rY(R:Rg P H0 D N l bs e h tr e' h'){S:Nat→Bool}{c i:Nat}{x:bp}(GW:Cut l S c)(ju:∀j,S j=true→∀i,oB bs j i→S i=true)(hx:l[i]?=some x)(hsi:S i=false)
  (hpre:∀j,oB bs i j→S j=true):Cut l (fun j=>S j||decide (j=i)) (cond (bS x.op) (i+1) c)∧(bS x.op=true→Cut l S i):=by
 have hi:bS x.op=true→Cut l S i:=by
  intro he j y hy Lc;constructor
  ·intro hs;by_cases hji:j<i
   ·exact hji
   ·have hne:j≠i:=by rintro rfl;rw[hs] at hsi;simp at hsi
    rcases R.pairs i j x y (by omega) hx hy with hb|hb
    ·have:=ju j hs i hb;rw[this] at hsi;simp at hsi
    ·exact absurd ⟨he,Lc⟩ hb.1
  ·intro hji;rcases R.pairs j i y x hji hy hx with hb|hb
   ·exact hpre j hb
   ·exact absurd ⟨Lc,he⟩ hb.1
 refine⟨?_,hi⟩;cases he:bS x.op with
 |true=>
  intro j y hy Lc;have:=hi he j y hy Lc;by_cases hji:j=i
  ·subst hji;simp
  ·simp[hji,this];omega
 |false=>
  intro j y hy Lc;have hne:j≠i:=by rintro rfl;rw[hx] at hy;cases hy;rw[he] at Lc;simp at Lc
  simp[hne,GW j y hy Lc]
theorem Rg.slot(R:Rg P H0 D N l bs e h tr e' h'){S:Nat→Bool}{i:Nat}{x:bp}(ju:∀j,S j=true→∀i,oB bs j i→S i=true)(hx:l[i]?=some x)(hsi:S i=false)
  (hpre:∀j,oB bs i j→S j=true){d:Nat}(hd:d∈x.reads):(fc S l tr e).get d=(cQ l tr i e).get d:=by
 refine mP l tr S i d e e rfl R.ot.length ?_;intro j y hy B5;have hnm:x.names.contains d=true:=by simp[bp.names,hd]
 by_cases hji:j<i
 ·rw[decide_eq_true hji];rcases R.pairs j i y x hji hy hx with hb|hb
  ·exact hpre j hb
  ·have:=hb.2;unfold nu at this;rw[B5] at this;simp only[hnm] at this;simp at this
 ·rw[decide_eq_false hji];by_cases he:j=i
  ·subst he;exact hsi
  ·rcases R.pairs i j x y (by omega) hx hy with hb|hb
   ·cases hs:S j with
    |false=>rfl
    |true=>have:=ju j hs i hb;rw[this] at hsi;simp at hsi
   ·have:=hb.2;unfold nu at this;rw[B5] at this;simp only[hnm] at this;simp at this
theorem Rg.late(R:Rg P H0 D N l bs e h tr e' h'){S:Nat→Bool}{i:Nat}{x:bp}(ju:∀j,S j=true→∀i,oB bs j i→S i=true)(hx:l[i]?=some x)(hsi:S i=false)
  {d:Nat}{j:Nat}{y:bp}(hij:i<j)(hy:l[j]?=some y)(OV:x.dst=some d)(B5:y.dst=some d):S j=false:=by
 rcases R.pairs i j x y hij hx hy with hb|hb
 ·cases hs:S j with
  |false=>rfl
  |true=>have:=ju j hs i hb;rw[this] at hsi;simp at hsi
 ·have:=hb.2;unfold nu at this;rw[B5,OV] at this;simp[bp.names,B5] at this
end
end Ads
end Go.Proofs.YtmnolnoeibhjgaaGreat
set_option linter.unusedSimpArgs false
set_option linter.unusedVariables false
namespace Go.Proofs.YtmnolnoeibhjgaaGreat
namespace Ads
section
variable {P:Program} {H0:Nat} {D:Dom} {N:Nat} {l:List bp} {bs:List Nat} {e:Env} {h:Heap} {tr:List aK} {e':Env} {h':Heap}
 {qM:cG} {w0:World} {a0:Act} {S:Nat→Bool} {c:Nat} {ρ:cG} {a:Act} {w:World} {i:Nat} {x:bp} {m:aK}
def dg(S:Nat→Bool)(i:Nat):Nat→Bool:=fun j=>S j||decide (j=i)
theorem jN(hi:i<l.length)(b:Nat):DS D l tr h' (dg S i) b↔DS D l tr h' S b∨((aC tr h' i).next≤b∧b<(aC tr h' (i+1)).next):=by
 constructor
 ·rintro(hb|⟨j,hs,hj,h1,h2⟩)
  ·exact .inl (.inl hb)
  ·by_cases hji:j=i
   ·subst hji;exact .inr ⟨h1,h2⟩
   ·simp only[dg,hji,decide_false,Bool.or_false] at hs;exact .inl (.inr ⟨j,hs,hj,h1,h2⟩)
 ·rintro((hb|⟨j,hs,hj,h1,h2⟩)|hb)
  ·exact .inl hb
  ·exact .inr ⟨j,by simp[dg,hs],hj,h1,h2⟩
  ·exact .inr ⟨i,by simp[dg],hi,hb.1,hb.2⟩
theorem FN(hi:i<l.length)(hs:aC tr h' (i+1)=aC tr h' i):DS D l tr h' (dg S i)=DS D l tr h' S:=by
 funext b
 rw[eq_iff_iff,jN hi,hs];constructor
 ·rintro(hb|hb)
  ·exact hb
  ·omega
 ·exact .inl
theorem Heap.jj{h1 h2:Heap}{b:Nat}(hg:h1.get b=h2.get b):h1.wr b=h2.wr b:=by simp only[Heap.wr,hg]
structure Up(bs:List Nat)(l:List bp)(tr:List aK)(S:Nat→Bool)(i:Nat)(x:bp)(m:aK):Prop where
 hx:l[i]?=some x
 hm:tr[i]?=some m
 hsi:S i=false
 pre:∀j,oB bs i j→S j=true
theorem Up.lt(u:Up bs l tr S i x m):i<l.length:=(List.getElem?_eq_some_iff.1 u.hx).1
theorem J.o6(j:J P H0 D N l bs e h tr h' qM w0 a0 S c ρ a w)(u:Up bs l tr S i x m):∀k,dg S i k=true→∀k',oB bs k k'→dg S i k'=true:=by
 intro k hk k' hb;simp only[dg,Bool.or_eq_true,decide_eq_true_eq] at hk⊢;rcases hk with hk|rfl
 ·exact .inl (j.closed k hk k' hb)
 ·exact .inl (u.pre k' hb)
theorem J.vR(R:Rg P H0 D N l bs e h tr e' h')(j:J P H0 D N l bs e h tr h' qM w0 a0 S c ρ a w)(u:Up bs l tr S i x m){ρ':cG}(ga:∀b,DS D l tr h' S b→ρ' b=ρ b)
  (hv:m.v.aW (DS D l tr h' (dg S i))):bG ρ' (DS D l tr h' (dg S i)) N (fc (dg S i) l tr e) (a.put x.dst (real ρ' m.v)):=by
 have h1:bG ρ' (DS D l tr h' (dg S i)) N (fc S l tr e) a:=j.env.mono ga (fun b hb=>(jN u.lt b).2 (.inl hb));refine(h1.put (tG R.ok u.hx) hv).congr ?_;intro d;exact xR l tr S (dg S i) i x m e d R.ot.length u.hx u.hm (fun _=>rfl) u.hsi (fun k y hk hy OV B5=>R.late j.closed u.hx u.hsi hk hy OV B5)
theorem J.slots(R:Rg P H0 D N l bs e h tr e' h')(j:J P H0 D N l bs e h tr h' qM w0 a0 S c ρ a w)(u:Up bs l tr S i x m){d:Nat}(hd:d∈x.reads):
  (fc S l tr e).get d=(cQ l tr i e).get d:=R.slot j.closed u.hx u.hsi u.pre hd
theorem kE{rs:List bx}{t:Nat}(h:bx.t t∈rs):t∈gG rs:=by
 induction rs with
 |nil=>simp at h
 |cons r rs ih=>
  rcases List.mem_cons.1 h with rfl|hh
  ·simp[gG]
  ·cases r<;>simp[gG,ih hh]
theorem J.vals(R:Rg P H0 D N l bs e h tr e' h')(j:J P H0 D N l bs e h tr h' qM w0 a0 S c ρ a w)(u:Up bs l tr S i x m):x.args.map (fc S l tr e).ev=x.args.map (cQ l tr i e).ev:=by
 refine List.map_congr_left fun r hr=>?_;cases r with
 |c v=>rfl
 |t d=>exact j.slots R u (List.mem_append_right _ (kE hr))
theorem J.wanted(R:Rg P H0 D N l bs e h tr e' h')(j:J P H0 D N l bs e h tr h' qM w0 a0 S c ρ a w)(u:Up bs l tr S i x m):bO x (fc S l tr e)=bO x (cQ l tr i e):=by
 unfold bO;cases hg:x.guard with
 |none=>rfl
 |some p=>
  obtain⟨d,want⟩:=p;simp only;rw[j.slots R u (by simp[bp.reads,hg])]
theorem J.quiet(R:Rg P H0 D N l bs e h tr e' h')(j:J P H0 D N l bs e h tr h' qM w0 a0 S c ρ a w)(u:Up bs l tr S i x m)(hst:aC tr h' (i+1)=aC tr h' i)(hmb:dL x m=none)
  (hv:m.v.aW (DS D l tr h' S)):J P H0 D N l bs e h tr h' qM w0 a0 (dg S i) (cond (bS x.op) (i+1) c) ρ (a.put x.dst (real ρ m.v)) w:=by
 have hcs:=R.rY j.cut j.closed u.hx u.hsi u.pre;have hds:DS D l tr h' (dg S i)=DS D l tr h' S:=FN u.lt hst;have G2:∀b,(cA l tr h' (cond (bS x.op) (i+1) c)).get b=(cA l tr h' c).get b:=by
  intro b;cases he:bS x.op with
  |false=>rfl
  |true=>
   rw[R.Ek j.cut (hcs.2 he) b];simp only[cond_true];show(fu (l.drop (i+1)) (tr.drop (i+1)) (aC tr h' (i+1)).m).get b=(fu (l.drop i) (tr.drop i) (aC tr h' i).m).get b;rw[drop_cons u.hx,drop_cons u.hm,hst];simp only[fu,hmb]
 refine⟨hcs.1,j.o6 u,?_,j.ext.congr rfl G2,?_,?_,?_⟩
 ·rw[hds];exact j.inv.congr rfl G2
 ·intro k y n bk hy hn hb hs;rw[G2];refine j.made k y n bk hy hn hb ?_;simp only[dg,Bool.or_eq_false_iff] at hs;exact hs.1
 ·exact j.vR R u (fun _ _=>rfl) (by rw[hds];exact hv)
 ·rw[←j.defers];cases x.dst<;>rfl
theorem J.yl(j:J P H0 D N l bs e h tr h' qM w0 a0 S c ρ a w){c':Nat}(hg:∀(k:Nat) (y:bp) (n:aK) (bk:bP),l[k]?=some y→tr[k]?=some n→dL y n=some bk→S k=false→k≠i→
   (cA l tr h' c).get (aC tr h' k).next=some bk→(cA l tr h' c').get (aC tr h' k).next=some bk):
  ∀(k:Nat) (y:bp) (n:aK) (bk:bP),l[k]?=some y→tr[k]?=some n→dL y n=some bk→dg S i k=false→(cA l tr h' c').get (aC tr h' k).next=some bk:=by
 intro k y n bk hy hn hb hs;simp only[dg,Bool.or_eq_false_iff,decide_eq_false_iff_not] at hs;exact hg k y n bk hy hn hb hs.1 hs.2 (j.made k y n bk hy hn hb hs.1)
theorem Rg.DQ(R:Rg P H0 D N l bs e h tr e' h'){k:Nat}{y:bp}{n:aK}{bk:bP}(hy:l[k]?=some y)(hn:tr[k]?=some n)(hb:dL y n=some bk)(hs:S k=false):
  ¬DS D l tr h' S (aC tr h' k).next:=by
 rintro(hd|⟨q,hq,hql,h1,h2⟩)
 ·have:=R.Jr _ hd;have:=R.tN.low k;omega
 ·by_cases hqk:q=k
  ·subst hqk;rw[hs] at hq;simp at hq
  ·by_cases hlt:q<k
   ·have:=R.tN.mono (q+1) k (by omega);omega
   ·have:=R.A9 hy hn hb (i:=q) (by omega);omega
theorem J.alloc(R:Rg P H0 D N l bs e h tr e' h')(j:J P H0 D N l bs e h tr h' qM w0 a0 S c ρ a w)(u:Up bs l tr S i x m){bk:bP}(hb:dL x m=some bk){obj:Obj}
  (zg:∀ρ' D',(∀b,DS D l tr h' S b→D' b)→(∀b,DS D l tr h' S b→ρ' b=ρ b)→ei P H0 ρ' D' ⟨w.heap.size,0,0⟩ bk (w.alloc obj))
  (hv:m.v.aW (DS D l tr h' (dg S i))):
  J P H0 D N l bs e h tr h' qM w0 a0 (dg S i) c (j5 ρ (aC tr h' i).next ⟨w.heap.size,0,0⟩) (a.put x.dst (real (j5 ρ (aC tr h' i).next ⟨w.heap.size,0,0⟩) m.v)) (w.alloc obj):=by
 have hcs:=R.rY j.cut j.closed u.hx u.hsi u.pre;obtain⟨⟨o,f,ho,gb,hai,x7⟩,hst,A2⟩:=R.made u.hx u.hm hb;have hne:bS x.op=false:=by rw[ho];rfl
 rw[hne] at hcs;have hnot:=R.DQ u.hx u.hm hb u.hsi;have cu:=j.made i x m bk u.hx u.hm hb u.hsi;generalize hid:(aC tr h' i).next=id at*
 have hU:(aC tr h' (i+1)).next=id+1:=by rw[hst];simp[hid]
 have hds:∀b,DS D l tr h' (dg S i) b↔DS D l tr h' S b∨b=id:=by
  intro b;rw[jN u.lt,hU,hid];constructor
  ·rintro(hb|hb)
   ·exact .inl hb
   ·exact .inr (by omega)
  ·rintro(hb|rfl)
   ·exact .inl hb
   ·exact .inr (by omega)
 have ga:∀b,DS D l tr h' S b→j5 ρ id ⟨w.heap.size,0,0⟩ b=ρ b:=fun b hb=>jI _ _ (by rintro rfl;exact hnot hb);have hold:∀r,r<w.heap.size→(w.alloc obj).heap[r]?=w.heap[r]?:=by
  intro r hr;show(w.heap.push obj)[r]?=_;rw[Array.getElem?_push,if_neg (by omega)]
 have hsz:(w.alloc obj).heap.size=w.heap.size+1:=by show(w.heap.push obj).size=_;simp
 have RK:id<h'.next:=by have:=R.le_last (i+1);omega
 have XP:h.next≤id:=by have:=R.tN.low i;omega
 refine⟨hcs.1,j.o6 u,?_,?_,j.yl (fun _ _ _ _ _ _ _ _ _ hg=>hg),j.vR R u ga hv,?_⟩
 ·refine⟨?_,j.inv.top,by rw[hsz];have:=j.inv.low;omega,?_,?_⟩
  ·intro b hb;rcases(hds b).1 hb with hb|rfl
   ·exact j.inv.lt b hb
   ·exact RK
  ·intro b y hb hy;rcases(hds b).1 hb with hb|rfl
   ·have:=j.inv.bH b y hb hy;rw[ga b hb];exact bR this (fun b hb=>(hds b).2 (.inl hb)) ga (hold _ (gy this))
   ·rw[cu] at hy;cases hy
    rw[bM];exact zg _ _ (fun b hb=>(hds b).2 (.inl hb)) ga
  ·intro b b' hb hb' AR hw hg;rcases(hds b).1 hb with hb|rfl
   ·rw[ga b hb];rcases(hds b').1 hb' with hb'|rfl
    ·rw[ga b' hb'];exact j.inv.apart b b' hb hb' AR hw hg
    ·rw[bM];have:=j.inv.SY b hb hw;simp only;omega
   ·rcases(hds b').1 hb' with hb'|rfl
    ·rw[ga b' hb',bM];have:=j.inv.J3 hb' hg;simp only;omega
    ·exact absurd rfl AR
 ·have x0:=j.ext;refine⟨x0.next,?_,by rw[hsz];have:=x0.size;omega,?_,x0.iz,x0.old,?_,x0.tape,x0.os,x0.output⟩
  ·intro b hb;rw[ga b (.inl hb)];exact x0.bA b hb
  ·intro r hr hf;rw[hold r (by have:=x0.size;omega)];exact x0.frame r hr hf
  ·intro b oA gn;by_cases xZ:b=id
   ·subst xZ;rw[bM];exact .inl x0.size
   ·rw[jI _ _ xZ];exact x0.fresh b oA gn
 ·rw[←j.defers];cases x.dst<;>rfl
end
end Ads
end Go.Proofs.YtmnolnoeibhjgaaGreat
set_option linter.unusedSimpArgs false
set_option linter.unusedVariables false
namespace Go.Proofs.YtmnolnoeibhjgaaGreat
namespace Ads
section
variable {P:Program} {H0:Nat} {D:Dom} {N:Nat} {l:List bp} {bs:List Nat} {e:Env} {h:Heap} {tr:List aK} {e':Env} {h':Heap}
 {qM:cG} {w0:World} {a0:Act} {S:Nat→Bool} {c:Nat} {ρ:cG} {a:Act} {w:World} {i:Nat} {x:bp} {m:aK} {ro:Option Nat} {n:Nat}
def only(e:Env):List Nat→Env
 |[]=>.nil
 |d::ds=>Tr.set (only e ds) d (e.get d)
theorem o9(e:Env)(d:Nat):∀ds:List Nat,(only e ds).get d=if d∈ds then e.get d else .undef
 |[]=>by simp[only,Env.get,Tr.get]
 |x::ds=>by
  show((Tr.set (only e ds) x (e.get x)).get d).getD .undef=_;rw[Tr.aT];by_cases hx:d=x
  ·subst hx;simp
  ·rw[if_neg hx];have:=o9 e d ds;unfold Env.get at this;simp only[List.mem_cons,hx,false_or];exact this
def xF(ρ:cG)(N:Nat)(e:Env)(a:Act):Act:={a with tmps:=Array.ofFn (n:=N) fun i=>real ρ (e.get i)}
theorem Et{D:Dom}(hh:∀i,N≤i→real ρ (e.get i)=Go.undef)(hd:∀i,(e.get i).aW D):bG ρ D N e (xF ρ N e a) where
 size:=by simp[xF]
 get:=fun i=>by
  by_cases hi:i<N
  ·simp[xF,Array.getD_eq_getD_getElem?,hi]
  ·rw[hh i (by omega)];simp[xF,Array.getD_eq_getD_getElem?,hi]
 dom:=hd
theorem xl{op:Op}{ZM:fG}{rs:List bx}(hc:aD P op=some (ZM,rs))(he:bS ZM=true):
  (∀cs b,op≠.select cs b)∧∀y∈op.operands,∃r∈rs,dr y=some r:=by
 have key:∀(xs:List Operand) (rs:List bx),ck xs=some rs→∀y∈xs,∃r∈rs,dr y=some r:=by
  intro xs;induction xs with
  |nil=>intro rs h y hy;simp at hy
  |cons z xs ih=>
   intro rs h y hy;obtain⟨r,rs',rfl,h1,h2⟩:=dw h;rcases List.mem_cons.1 hy with rfl|hy
   ·exact⟨r,by simp,h1⟩
   ·obtain⟨r',hr',h3⟩:=ih rs' h2 y hy;exact⟨r',by simp[hr'],h3⟩
 cases op
 case store t a y=>
  simp only[aD,Option.bind_eq_some_iff] at hc;obtain⟨k,_,hc⟩:=hc;simp only[one,Option.map_eq_some_iff,Prod.mk.injEq] at hc;obtain⟨rs',hr,_,rfl⟩:=hc;exact⟨by simp,fun y hy=>key _ _ hr y (by simpa[Op.operands] using hy)⟩
 case panic y=>
  simp only[aD,one,Option.map_eq_some_iff,Prod.mk.injEq] at hc;obtain⟨rs',hr,_,rfl⟩:=hc;exact⟨by simp,fun y hy=>key _ _ hr y (by simpa[Op.operands] using hy)⟩
 case call k=>
  refine⟨by simp,fun y hy=>?_⟩;simp only[aD] at hc;split at hc
  ·rename_i f hf;simp only[Option.map_eq_some_iff,Prod.mk.injEq] at hc;obtain⟨rs',hr,_,rfl⟩:=hc;exact key _ _ hr y (by simpa[Op.operands,Call.operands,hf] using hy)
  ·rename_i f nm hf;simp only[Option.map_eq_some_iff,Prod.mk.injEq] at hc;obtain⟨rs',hr,_,rfl⟩:=hc;exact key _ _ hr y (by simpa[Op.operands,Call.operands,hf] using hy)
  ·rename_i b hf;have nH:(Op.call k).operands=k.args:=by simp[Op.operands,Call.operands,hf]
   rw[nH] at hy;have hy':y∈k.args.toList:=by simpa using hy
   split at hc
   ·exfalso;repeat' (first
     |(obtain⟨h2,_⟩:=aS hc;subst h2;simp[bS] at he;done)
     |(simp at hc;done)
     |(split at hc))
   ·exfalso;obtain⟨h2,_⟩:=aS hc;subst h2;simp[bS] at he
   ·exfalso;obtain⟨h2,_⟩:=aS hc;subst h2;simp[bS] at he
   ·rename_i s z t u ts hargs ey;rw[hargs] at hy';split at hc
    ·split at hc
     ·simp at hc
     ·split at hc
      ·split at hc
       ·simp at hc
       ·exact key _ _ (aS hc).2 y hy'
      ·simp at hc
    ·simp at hc
   ·rename_i s z t ts hargs ey;rw[hargs] at hy';split at hc
    ·simp only[Option.bind_eq_some_iff] at hc;obtain⟨size,hsz,hc⟩:=hc;exact key _ _ (aS hc).2 y hy'
    ·simp at hc
   ·rename_i z t hargs ey;rw[hargs] at hy';split at hc
    ·simp only[Option.bind_eq_some_iff] at hc;obtain⟨u,_,hc⟩:=hc;exact key _ _ (aS hc).2 y hy'
    ·exfalso;obtain⟨h2,_⟩:=aS hc;subst h2;simp[bS] at he
    ·simp at hc
   ·rename_i z z2 t ts hargs ey;rw[hargs] at hy';split at hc
    ·split at hc
     ·exact key _ _ (aS hc).2 y hy'
     ·simp at hc
    ·simp at hc
   ·simp at hc
 case range t x=>
  simp only[aD] at hc;split at hc
  ·exact⟨by simp,fun y hy=>key _ _ (aS hc).2 y (by simpa[Op.operands] using hy)⟩
  ·simp at hc
 case next it s=>
  cases s with
  |true=>simp[aD] at hc
  |false=>
   simp only[aD] at hc;exact⟨by simp,fun y hy=>key _ _ (aS hc).2 y (by simpa[Op.operands] using hy)⟩
 case mapUpdate t m k x=>
  simp only[aD] at hc;split at hc
  ·split at hc
   ·exact⟨by simp,fun y hy=>key _ _ (aS hc).2 y (by simpa[Op.operands] using hy)⟩
   ·exfalso;obtain⟨h2,_⟩:=aS hc;subst h2;simp[bS] at he
   ·exfalso;obtain⟨h2,_⟩:=aS hc;subst h2;simp[bS] at he
   ·simp at hc
  ·simp at hc
 case insert t m k x=>
  simp only[aD] at hc;split at hc
  ·split at hc
   ·exact⟨by simp,fun y hy=>key _ _ (aS hc).2 y (by simpa[Op.operands] using hy)⟩
   ·exfalso;obtain⟨h2,_⟩:=aS hc;subst h2;simp[bS] at he
   ·exfalso;obtain⟨h2,_⟩:=aS hc;subst h2;simp[bS] at he
   ·simp at hc
  ·simp at hc
 case unOp u t y=>
  exfalso;cases u<;>simp only[aD] at hc<;>first
   |(obtain⟨h2,_⟩:=aS hc;subst h2;simp[bS] at he;done)
   |(simp at hc;done)
 case makeMap t r=>
  exfalso;cases r with
  |none=>simp only[aD] at hc;obtain⟨h2,_⟩:=aS hc;subst h2;simp[bS] at he
  |some r=>simp[aD] at hc
 all_goals (exfalso;simp only[aD] at hc)
 all_goals repeat' (first
  |(simp only[Option.bind_eq_some_iff] at hc;obtain⟨_,_,hc⟩:=hc)
  |(simp only[Option.map_eq_some_iff] at hc;obtain⟨_,_,hc⟩:=hc;simp only[Prod.mk.injEq] at hc;obtain⟨hc,_⟩:=hc;subst hc;simp[bS] at he;done)
  |(obtain⟨h2,_⟩:=aS hc;subst h2;simp[bS] at he;done)
  |(simp at hc;done)
  |(split at hc))
end
end Ads
end Go.Proofs.YtmnolnoeibhjgaaGreat
set_option linter.unusedSimpArgs false
set_option linter.unusedVariables false
namespace Go.Proofs.YtmnolnoeibhjgaaGreat
namespace Ads
section
variable {P:Program} {H0:Nat} {D:Dom} {N:Nat} {l:List bp} {bs:List Nat} {e:Env} {h:Heap} {tr:List aK} {e':Env} {h':Heap}
 {qM:cG} {w0:World} {a0:Act} {S:Nat→Bool} {c:Nat} {ρ:cG} {a:Act} {w:World} {i:Nat} {x:bp} {m:aK} {ro:Option Nat} {n:Nat}
theorem Fg{d:Option Nat}{a a2:Act}{u v:Value}(hd:vk N d=true)(h2:a2.tmps.size=N)(hp:a2.put d u=a2.put d v):a.put d u=a.put d v:=by
 cases d with
 |none=>rfl
 |some d=>
  have hlt:d<N:=Nat.le_of_ble_eq_true (show Nat.ble (d+1) N=true from hd);have:(a2.tmps.setIfInBounds d u)[d]?=(a2.tmps.setIfInBounds d v)[d]?:=congrArg (fun z:Act=>z.tmps[d]?) hp;simp[h2,hlt] at this;rw[this]
theorem put_defers{d:Option Nat}{a:Act}{v:Value}:(a.put d v).defers=a.defers:=by cases d<;>rfl
theorem Dl{o:Oper}{a a2:Act}{w:World}{next:Act→World→Prop}{Q:Exit→Act→World→Prop}(hd:vk N o.dst=true)(h2:a2.tmps.size=N)
  (hs:Oper.semAt (FW ro).round a.eval o=Oper.semAt (FW ro).round a2.eval o)
  (h:o.wpIn (FW ro) n P a2 w (fun z w'=>∃v,z=a2.put o.dst v∧next (a.put o.dst v) w') (fun _ _ _=>False)):o.wpIn (FW ro) n P a w next Q:=by
 refine⟨fun _ _=>trivial,?_⟩;rw[hs];have h:=h.2;generalize(Oper.semAt (FW ro).round a2.eval o).run P w=r at h;have key:∀(v:Value) (w':World),(∃v',a2.put o.dst v=a2.put o.dst v'∧next (a.put o.dst v') w')→next (a.put o.dst v) w':=by
  rintro v w' ⟨v',h1,h3⟩;rw[Fg (a:=a) hd h2 h1];exact h3
 cases r with
 |ok x w'=>
  cases x<;>simp only[Oper.uponIn] at h⊢
  case value v=>exact key _ _ h
  case skip=>exact key _ _ h
  case defer d=>
   exfalso;obtain⟨v,h1,_⟩:=h;have:=congrArg Act.defers h1;rw[put_defers,put_defers] at this;have:=congrArg List.length this;simp at this
  case enter f args=>
   exact⟨h.1,CallsIn.mono h.2 (fun e w'' he=>by
    cases e with
    |returned v=>exact key _ _ he
    |panicked c=>exact he.elim
    |outgrown=>obtain⟨_,_,q⟩:=he;exact q.elim)⟩
  case row row args=>exact⟨h.1,RowsIn.mono h.2 (fun _ _ he=>key _ _ he)⟩
  case round l f tmps as bd=>
   exact⟨h.1,RoundIn.mono h.2 (fun e w'' he=>by
    cases e with
    |returned v=>exact key _ _ he
    |panicked c=>exact he.elim
    |outgrown=>obtain⟨_,_,q⟩:=he;exact q.elim)⟩
  all_goals (first|exact h.elim|skip)
 |halt x w'=>
  cases x<;>simp only[Oper.uponIn] at h
def Ja(D:Dom)(l:List bp)(h:Heap)(tr:List aK)(h':Heap)(S:Nat→Bool)(i:Nat):Dom:=fun b=>
 DS D l tr h' S b∧grow D h.next (aC tr h' i).next b
theorem NG(R:Rg P H0 D N l bs e h tr e' h'){b:Nat}(hb:DS D l tr h' S b)(hlt:b<(aC tr h' i).next):Ja D l h tr h' S i b:=by
 refine⟨hb,?_⟩;rcases hb with hb|⟨q,_,_,h1,_⟩
 ·exact .inl hb
 ·exact .inr ⟨Nat.le_trans (R.tN.low q) h1,hlt⟩
theorem oN(R:Rg P H0 D N l bs e h tr e' h'){b:Nat}(hb:Ja D l h tr h' S i b):b<(aC tr h' i).next:=by
 rcases hb.2 with hd|hd
 ·exact Nat.lt_of_lt_of_le (R.Jr b hd) (R.tN.low i)
 ·exact hd.2
theorem J.before(R:Rg P H0 D N l bs e h tr e' h')(j:J P H0 D N l bs e h tr h' qM w0 a0 S c ρ a w)(u:Up bs l tr S i x m)(he:bS x.op=true):
  (∀b,b<(aC tr h' i).next→(aC tr h' i).get b=(cA l tr h' c).get b)∧Inv P H0 ρ (Ja D l h tr h' S i) (aC tr h' i) w:=by
 have hcs:=R.rY j.cut j.closed u.hx u.hsi u.pre;have hg:∀b,b<(aC tr h' i).next→(aC tr h' i).get b=(cA l tr h' c).get b:=by
  intro b hb;rw[R.Ek j.cut (hcs.2 he) b,R.El hb]
 refine⟨hg,fun b hb=>oN R hb,fun b hb=>R.tN.top i b hb,j.inv.low,?_,?_⟩
 ·intro b y hb hy;have hlt:=oN R hb;have h1:=j.inv.bH b y hb.1 (by rw[←hg b hlt];exact hy);obtain⟨IT,wv,av,iv,_⟩:=R.tN.run i;exact xg h1 (iv.bH b y hb.2 hy)
 ·intro b b' hb hb' hne hw hx;exact j.inv.apart b b' hb.1 hb'.1 hne (by rw[←Heap.jj (hg b (oN R hb))];exact hw) (by rw[←hg b' (oN R hb')];exact hx)
theorem J.effect(R:Rg P H0 D N l bs e h tr e' h')(j:J P H0 D N l bs e h tr h' qM w0 a0 S c ρ a w)(u:Up bs l tr S i x m)(he:bS x.op=true)
  {o:Oper}(hc:aD P o.op=some (x.op,x.args))(lu:x.dst=o.dst)(x7:m.vals=x.args.map (cQ l tr i e).ev)
  (hop:ux P H0 x.op m.vals (aC tr h' i) m.v (aC tr h' (i+1))){next:Act→World→Prop}{Q:Exit→Act→World→Prop}
  (hk:∀ρ' w',J P H0 D N l bs e h tr h' qM w0 a0 (dg S i) (i+1) ρ' (a.put x.dst (real ρ' m.v)) w'→next (a.put x.dst (real ρ' m.v)) w'):o.wpIn (FW ro) n P a w next Q:=by
 have hcs:=R.rY j.cut j.closed u.hx u.hsi u.pre;rw[he] at hcs;simp only[cond_true] at hcs;have GW:=hcs.2 trivial;obtain⟨hg,hinv⟩:=j.before R u he;have hmono:=R.tN.mono i (i+1) (by omega);obtain⟨IT,wv,av,iv,ev⟩:=R.tN.run i;have Ll:∀d,d∈gG x.args→(fc S l tr e).get d=(cQ l tr i e).get d:=fun d hd=>j.slots R u (List.mem_append_right _ hd);have XG:bG ρ (Ja D l h tr h' S i) N (only (fc S l tr e) (gG x.args)) (xF ρ N (only (fc S l tr e) (gG x.args)) a):=by
  refine Et (fun d hd=>?_) (fun d=>?_)
  ·rw[o9];split
   ·rw[←j.env.get d];simp[Array.getD_eq_getD_getElem?,j.env.size,Nat.not_lt.2 hd]
   ·exact fA ρ
  ·rw[o9];split
   ·rename_i hmem;refine jE (j.env.dom d) ?_;rw[Ll d hmem];exact ev.dom d
   ·simp[AV.undef,AV.aW,bl]
 have mT:x.args.map (only (fc S l tr e) (gG x.args)).ev=m.vals:=by
  rw[x7];refine List.map_congr_left fun r hr=>?_;cases r with
  |c v=>rfl
  |t d=>
   show(only _ _).get d=(cQ l tr i e).get d;rw[o9,if_pos (kE hr)];exact Ll d (kE hr)
 obtain⟨hsel,EW⟩:=xl hc he;have hex:execOp a.eval o=execOp (xF ρ N (only (fc S l tr e) (gG x.args)) a).eval o:=by
  refine execOp_congr o hsel ?_;intro y hy;obtain⟨r,hr,ZF⟩:=EW y hy;rw[(aG j.env ZF).1,(aG XG ZF).1];cases r with
  |c v=>rfl
  |t d=>
   show real ρ ((fc S l tr e).get d)=real ρ ((only _ _).get d);rw[o9,if_pos (kE hr)]
 refine Dl (N:=N) (by rw[←lu];exact tG R.ok u.hx) XG.size (by rw[wB hc,wB hc];exact hex) ?_;refine hop.sem o x.args hc ρ _ w _ N _ ro n hinv XG mT _ _ ?_;intro pO w1 i1 x1 JT;refine⟨real pO m.v,rfl,?_⟩
 let iQ:cG:=fun b=>if(aC tr h' i).next≤b∧b<(aC tr h' (i+1)).next then pO b else ρ b
 have K2:∀b,(aC tr h' i).next≤b→b<(aC tr h' (i+1)).next→iQ b=pO b:=fun b h1 h2=>if_pos ⟨h1,h2⟩
 have K3:∀b,¬((aC tr h' i).next≤b∧b<(aC tr h' (i+1)).next)→iQ b=ρ b:=fun b h1=>if_neg h1;have GM:∀b,DS D l tr h' S b→¬((aC tr h' i).next≤b∧b<(aC tr h' (i+1)).next):=by
  rintro b (hb|⟨q,hq,hql,h1,h2⟩) ⟨h3,h4⟩
  ·have:=R.Jr b hb;have:=R.tN.low i;omega
  ·by_cases hqi:q=i
   ·subst hqi;rw[u.hsi] at hq;simp at hq
   ·by_cases hlt:q<i
    ·have:=R.tN.mono (q+1) i (by omega);omega
    ·have:=R.tN.mono (i+1) q (by omega);omega
 have ga:∀b,DS D l tr h' S b→iQ b=ρ b:=fun b hb=>K3 b (GM b hb);have uA:∀b,grow (Ja D l h tr h' S i) (aC tr h' i).next (aC tr h' (i+1)).next b→iQ b=pO b:=by
  rintro b (hb|hb)
  ·rw[ga b hb.1,x1.bA b hb]
  ·exact K2 b hb.1 hb.2
 have hval:real iQ m.v=real pO m.v:=cn uA _ JT;have hsub:∀b,grow (Ja D l h tr h' S i) (aC tr h' i).next (aC tr h' (i+1)).next b→DS D l tr h' (dg S i) b:=by
  rintro b (hb|hb)
  ·exact(jN u.lt b).2 (.inl hb.1)
  ·exact(jN u.lt b).2 (.inr hb)
 have hsplit:∀b,DS D l tr h' (dg S i) b→(grow (Ja D l h tr h' S i) (aC tr h' i).next (aC tr h' (i+1)).next b∧b<(aC tr h' (i+1)).next)∨(DS D l tr h' S b∧(aC tr h' (i+1)).next≤b):=by
  intro b hb;rcases(jN u.lt b).1 hb with hb|hb
  ·have:=GM b hb;by_cases hlt:b<(aC tr h' i).next
   ·exact .inl ⟨.inl (NG R hb hlt),by omega⟩
   ·exact .inr ⟨hb,by omega⟩
  ·exact .inl ⟨.inr hb,hb.2⟩
 have G2:∀b,b<(aC tr h' (i+1)).next→(cA l tr h' (i+1)).get b=(aC tr h' (i+1)).get b:=fun b hb=>R.El hb
 have AZ:∀b,(aC tr h' (i+1)).next≤b→(cA l tr h' (i+1)).get b=(cA l tr h' c).get b:=by
  intro b hb;rw[R.Ek j.cut GW b,R.SS u.hx he hb]
 have Yr:∀b,b<(aC tr h' (i+1)).next→(cA l tr h' (i+1)).wr b=(aC tr h' (i+1)).wr b:=fun b hb=>Heap.jj (G2 b hb)
 have hkeep:∀b,DS D l tr h' S b→(aC tr h' (i+1)).next≤b→(cA l tr h' c).get b≠none→∀b0,Ja D l h tr h' S i b0→(aC tr h' i).wr b0=true→(ρ b0).bH≠(ρ b).bH:=by
  intro b hb hlt G6 b0 hb0 hw0;have:=oN R hb0;exact j.inv.apart b0 b hb0.1 hb (by omega) (by rw[←Heap.jj (hg b0 this)];exact hw0) G6
 have ju:=j.o6 u;have XQ:J P H0 D N l bs e h tr h' qM w0 a0 (dg S i) (i+1) iQ (a.put x.dst (real iQ m.v)) w1:=by
  refine⟨hcs.1,ju,?_,?_,j.yl ?_,j.vR R u ga (cO hsub _ JT),by rw[←j.defers];exact put_defers⟩
  ·refine⟨?_,fun b hb=>R.Lv hb,i1.low,?_,?_⟩
   ·intro b hb;rcases hsplit b hb with hb|hb
    ·exact Nat.lt_of_lt_of_le hb.2 (R.le_last _)
    ·exact j.inv.lt b hb.1
   ·intro b y hb hy;rcases hsplit b hb with hb|hb
    ·rw[G2 b hb.2] at hy;rw[uA b hb.1];exact bR (i1.bH b y hb.1 hy) hsub uA rfl
    ·rw[AZ b hb.2] at hy;rw[ga b hb.1];have Cy:=j.inv.bH b y hb.1 hy;refine bR Cy (fun b hb=>(jN u.lt b).2 (.inl hb)) ga ?_;exact x1.frame _ (gy Cy) (hkeep b hb.1 hb.2 (by rw[hy];simp))
   ·intro b b' hb hb' hne hw hx;rcases hsplit b hb with hb|hb<;>rcases hsplit b' hb' with hb'|hb'
    ·rw[uA b hb.1,uA b' hb'.1];exact i1.apart b b' hb.1 hb'.1 hne (by rw[←Yr b hb.2];exact hw) (by rw[←G2 b' hb'.2];exact hx)
    ·rw[uA b hb.1,ga b' hb'.1];rw[AZ b' hb'.2] at hx;rcases hb.1 with hd|hd
     ·rw[x1.bA b hd];have ZJ:(aC tr h' (i+1)).wr b=true:=by rw[←Yr b hb.2];exact hw
      have:=(x1.old b (oN R hd) (Heap.eu ZJ)).2;exact hkeep b' hb'.1 hb'.2 hx b hd (this ZJ)
     ·rcases x1.fresh b hd.1 hd.2 with hf|⟨b0,k1,k2,k3⟩
      ·have:=j.inv.J3 hb'.1 hx;omega
      ·rw[←k3];exact hkeep b' hb'.1 hb'.2 hx b0 k1 k2
    ·rw[ga b hb.1,uA b' hb'.1];rw[Heap.jj (AZ b hb.2)] at hw;rw[G2 b' hb'.2] at hx;rcases hb'.1 with hd|hd
     ·rw[x1.bA b' hd];have hlt:=oN R hd;have:=(x1.old b' hlt hx).1;rw[hg b' hlt] at this;exact j.inv.apart b b' hb.1 hd.1 hne hw this
     ·rcases x1.fresh b' hd.1 hd.2 with hf|⟨b0,k1,k2,k3⟩
      ·have:=j.inv.SY b hb.1 hw;omega
      ·rw[←k3];exact(hkeep b hb.1 hb.2 (Heap.eu hw) b0 k1 k2).symm
    ·rw[ga b hb.1,ga b' hb'.1];rw[Heap.jj (AZ b hb.2)] at hw;rw[AZ b' hb'.2] at hx;exact j.inv.apart b b' hb.1 hb'.1 hne hw hx
  ·have x0:=j.ext;have tA:=R.tN.low i;have GL:∀b,DS D l tr h' S b→b<h.next→D b:=by
    rintro b (hb|⟨q,_,_,h1,_⟩) hlt
    ·exact hb
    ·have:=R.tN.low q;omega
   have place:∀b,DS D l tr h' S b→(cA l tr h' c).wr b=true→w0.heap.size≤(ρ b).bH∨∃b0,D b0∧h.wr b0=true∧(qM b0).bH=(ρ b).bH:=by
    intro b hb hw;by_cases hlt:b<h.next
    ·have hd:=GL b hb hlt;have:=(x0.old b hlt (Heap.eu hw)).2;exact .inr ⟨b,hd,this hw,by rw[x0.bA b hd]⟩
    ·exact x0.fresh b (by omega) (j.inv.lt b hb)
   have place':∀b,Ja D l h tr h' S i b→(aC tr h' i).wr b=true→w0.heap.size≤(ρ b).bH∨∃b0,D b0∧h.wr b0=true∧(qM b0).bH=(ρ b).bH:=
    fun b hb hw=>place b hb.1 (by rw[←Heap.jj (hg b (oN R hb))];exact hw)
   refine⟨x0.next,?_,Nat.le_trans x0.size x1.size,?_,?_,?_,?_,x1.tape.trans x0.tape,x1.os.trans x0.os,x1.output.trans x0.output⟩
   ·intro b hb;rw[ga b (.inl hb)];exact x0.bA b hb
   ·intro r hr hf;rw[x1.frame r (Nat.lt_of_lt_of_le hr x0.size),x0.frame r hr hf];intro b hb hw;rcases place' b hb hw with hp|⟨b0,k1,k2,k3⟩
    ·omega
    ·rw[←k3];exact hf b0 k1 k2
   ·intro b hb hd;have hlt:b<(aC tr h' i).next:=by omega
    rw[G2 b (by omega),x1.iz b hlt (fun hin=>hd (GL b hin.1 hb)),hg b hlt];exact x0.iz b hb hd
   ·intro b hb hn;have hlt:b<(aC tr h' i).next:=by omega
    rw[G2 b (by omega)] at hn;have k1:=x1.old b hlt hn;have k2:=x0.old b hb (by rw[←hg b hlt];exact k1.1);refine⟨k2.1,?_⟩;intro hw;rw[Yr b (by omega)] at hw;exact k2.2 (by rw[←Heap.jj (hg b hlt)];exact k1.2 hw)
   ·intro b oA gn;by_cases hnew:(aC tr h' i).next≤b∧b<(aC tr h' (i+1)).next
    ·rw[K2 b hnew.1 hnew.2];rcases x1.fresh b hnew.1 hnew.2 with hf|⟨b0,k1,k2,k3⟩
     ·exact .inl (Nat.le_trans x0.size hf)
     ·rw[←k3];exact place' b0 k1 k2
    ·rw[K3 b hnew];exact x0.fresh b oA gn
  ·intro k y q bk hy hq hb hs hki RF;by_cases hlt:(aC tr h' k).next<(aC tr h' i).next
   ·rw[G2 _ (by omega),x1.iz _ hlt (fun hin=>R.DQ hy hq hb hs hin.1),hg _ hlt];exact RF
   ·have zk:=R.A9 hy hq hb (i:=k+1) (by omega);have:(aC tr h' (i+1)).next≤(aC tr h' k).next:=by
     rcases Nat.lt_or_ge k i with hlt'|hge
     ·have:=R.A9 hy hq hb hlt';omega
     ·exact R.tN.mono (i+1) k (by omega)
    rw[AZ _ this];exact RF
 have:=hk iQ w1 XQ;rw[hval] at this;rw[←lu];exact this
end
end Ads
end Go.Proofs.YtmnolnoeibhjgaaGreat
