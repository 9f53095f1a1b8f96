/-
  Regions that draw their order: what a trace in the text's order says of places and stores.
  Regions that draw their order: a run in the text's order exists, and what it shows of numbers.
  Regions that draw their order: the heap that all orders work on; what holds when some operations are done.
  Regions that draw their order: one operation more is done; those that change no heap.
  Regions that draw their order: an effect is done.
  Regions that draw their order: an effect is done, in any order.
-/
import Derived.Test.YtepdklcpagielaaAdsSem
set_option linter.unusedSimpArgs false
set_option linter.unusedVariables false
namespace Go.Proofs.Ytepdklcpagielaa
namespace Ads
def aF(tr:List aQ)(h':Heap)(i:Nat):Heap:=eO (tr.drop i) h'
def dF:List bK→List aQ→Nat→Env→Env
 |x::l,m::tr,i+1,e=>dF l tr i (e.put x.dst m.v)
 |_,_,_,e=>e
def gD:(Nat→Bool)→List bK→List aQ→Env→Env
 |S,x::l,m::tr,e=>gD (fun j=>S (j+1)) l tr (cond (S 0) (e.put x.dst m.v) e)
 |_,_,_,e=>e
section
variable {P:Program} {H0:Nat}
theorem OT.length:∀{l:List bK} {e:Env} {h:Heap} {tr:List aQ} {e':Env} {h':Heap},OT P H0 l e h tr e' h'→tr.length=l.length
 |[],_,_,tr,_,_,ho=>by cases tr<;>simp_all[OT]
 |x::l,_,_,tr,_,_,ho=>by
  cases tr with
  |nil=>simp[OT] at ho
  |cons m tr=>
   simp only[OT] at ho;rcases ho.2.2 with⟨_,_,_,hr⟩|⟨_,_,h1,_,hr⟩<;>simp[hr.length]
theorem OT.zero{l:List bK}{e:Env}{h:Heap}{tr:List aQ}{e':Env}{h':Heap}(ho:OT P H0 l e h tr e' h'):aF tr h' 0=h:=by
 cases l with
 |nil=>cases tr<;>simp_all[OT,aF,eO]
 |cons x l=>cases tr with
  |nil=>simp[OT] at ho
  |cons m tr=>simp only[OT] at ho;simp[aF,eO,ho.1]
theorem OT.at:∀{l:List bK} {e:Env} {h:Heap} {tr:List aQ} {e':Env} {h':Heap},OT P H0 l e h tr e' h'→∀{i:Nat} {x:bK},l[i]?=some x→
  ∃m,tr[i]?=some m∧m.h=aF tr h' i∧m.vals=x.args.map (dF l tr i e).ev∧
   ((m.on=false∧cz x (dF l tr i e)=false∧m.v=.undef∧aF tr h' (i+1)=aF tr h' i)∨
    (m.on=true∧cz x (dF l tr i e)=true∧xJ P H0 x.op m.vals (aF tr h' i) m.v (aF tr h' (i+1))))
 |[],_,_,_,_,_,_,i,x,hx=>by simp at hx
 |y::l,e,h,tr,e',h',ho,i,x,hx=>by
  cases tr with
  |nil=>simp[OT] at ho
  |cons m tr=>
   simp only[OT] at ho;cases i with
   |zero=>
    simp at hx;subst hx;refine⟨m,rfl,rfl,by simpa[dF] using ho.2.1,?_⟩;rcases ho.2.2 with⟨h1,h2,h3,hr⟩|⟨h1,h2,h4,h3,hr⟩
    ·refine .inl ⟨h1,by simpa[dF] using h2,h3,?_⟩;show aF tr h' 0=m.h;rw[hr.zero,ho.1]
    ·refine .inr ⟨h1,by simpa[dF] using h2,?_⟩;show xJ P H0 y.op m.vals m.h m.v (aF tr h' 0);rw[hr.zero,ho.1];exact h3
   |succ i=>
    simp at hx;rcases ho.2.2 with⟨h1,h2,h3,hr⟩|⟨h1,h2,h4,h3,hr⟩
    ·rw[←h3] at hr;obtain⟨m',g1,g2,g3,g4⟩:=hr.at hx;exact⟨m',by simpa using g1,by simpa[aF] using g2,by simpa[dF] using g3,by simpa[dF,aF] using g4⟩
    ·obtain⟨m',g1,g2,g3,g4⟩:=hr.at hx;exact⟨m',by simpa using g1,by simpa[aF] using g2,by simpa[dF] using g3,by simpa[dF,aF] using g4⟩
theorem OT.last{l:List bK}{e:Env}{h:Heap}{tr:List aQ}{e':Env}{h':Heap}(ho:OT P H0 l e h tr e' h'){i:Nat}(hi:l.length≤i):aF tr h' i=h':=by
 unfold aF;rw[List.drop_eq_nil_of_le (by rw[ho.length];exact hi)];rfl
theorem OT.take:∀{l:List bK} {e:Env} {h:Heap} {tr:List aQ} {e':Env} {h':Heap},OT P H0 l e h tr e' h'→∀i:Nat,
  OT P H0 (l.take i) e h (tr.take i) (dF l tr i e) (aF tr h' i)
 |[],e,h,tr,e',h',ho,i=>by
  cases tr with
  |cons _ _=>simp[OT] at ho
  |nil=>simp only[OT] at ho;obtain⟨rfl,rfl⟩:=ho;cases i<;>simp[OT,dF,aF,eO]
 |y::l,e,h,tr,e',h',ho,i=>by
  cases tr with
  |nil=>simp[OT] at ho
  |cons m tr=>
   cases i with
   |zero=>
    have:=ho.zero;simp[OT,dF,this]
   |succ i=>
    simp only[OT] at ho;simp only[List.take_succ_cons,OT,dF];refine⟨ho.1,ho.2.1,?_⟩;rcases ho.2.2 with⟨h1,h2,h3,hr⟩|⟨h1,h2,h4,h3,hr⟩
    ·refine .inl ⟨h1,h2,h3,?_⟩;have:=hr.take i;rw[h3];simpa[aF] using this
    ·refine .inr ⟨h1,h2,h4,h3,?_⟩;have:=hr.take i;simpa[aF] using this
theorem vY:∀{l:List bK} {e:Env} {h:Heap} {tr:List aQ} {e':Env} {h':Heap},OT P H0 l e h tr e' h'→dF l tr l.length e=e'
 |[],e,h,tr,e',h',ho=>by cases tr<;>simp_all[OT,dF]
 |y::l,e,h,tr,e',h',ho=>by
  cases tr with
  |nil=>simp[OT] at ho
  |cons m tr=>
   simp only[OT] at ho;simp only[List.length_cons,dF];rcases ho.2.2 with⟨h1,h2,h3,hr⟩|⟨h1,h2,h4,h3,hr⟩
   ·rw[h3];exact vY hr
   ·exact vY hr
theorem gZ{e:Env}{d:Option Nat}{v:AV}{t:Nat}(h:d≠some t):(e.put d v).get t=e.get t:=by rw[fA,if_neg h]
theorem o5:∀(l:List bK) (tr:List aQ) (S:Nat→Bool) (i:Nat) (d:Nat) (e1 e2:Env),e1.get d=e2.get d→tr.length=l.length→
  (∀j x,l[j]?=some x→x.dst=some d→S j=decide (j<i))→(gD S l tr e1).get d=(dF l tr i e2).get d
 |[],tr,S,i,d,e1,e2,he,hl,hs=>by cases tr<;>simp_all[gD,dF]
 |x::l,[],S,i,d,e1,e2,he,hl,hs=>by simp at hl
 |x::l,m::tr,S,i,d,e1,e2,he,hl,hs=>by
  simp only[gD];cases i with
  |zero=>
   have h0:(cond (S 0) (e1.put x.dst m.v) e1).get d=e2.get d:=by
    by_cases hx:x.dst=some d
    ·have:=hs 0 x rfl hx;simp at this;rw[this];exact he
    ·cases S 0
     ·exact he
     ·simp only[cond_true];rw[gZ hx];exact he
   have:=o5 l tr (fun j=>S (j+1)) 0 d _ e2 h0 (by simpa using hl) (fun j y hy hd=>by
    have:=hs (j+1) y (by simpa using hy) hd;simpa using this)
   rw[this];cases l<;>cases tr<;>simp[dF]
  |succ i=>
   simp only[dF];refine o5 l tr (fun j=>S (j+1)) i d _ _ ?_ (by simpa using hl) (fun j y hy hd=>by
    have:=hs (j+1) y (by simpa using hy) hd;simpa using this)
   by_cases hx:x.dst=some d
   ·have:=hs 0 x rfl hx;simp at this;rw[this];simp only[cond_true];rw[fA,fA,if_pos hx,if_pos hx]
   ·rw[gZ hx];cases S 0
    ·exact he
    ·simp only[cond_true];rw[gZ hx];exact he
theorem xh:∀(l:List bK) (tr:List aQ) (S S':Nat→Bool) (d:Nat) (e1 e2:Env),e1.get d=e2.get d→tr.length=l.length→
  (∀j x,l[j]?=some x→x.dst=some d→S j=S' j)→(gD S l tr e1).get d=(gD S' l tr e2).get d
 |[],tr,S,S',d,e1,e2,he,hl,hs=>by cases tr<;>simp_all[gD]
 |x::l,[],S,S',d,e1,e2,he,hl,hs=>by simp at hl
 |x::l,m::tr,S,S',d,e1,e2,he,hl,hs=>by
  simp only[gD];refine xh l tr _ _ d _ _ ?_ (by simpa using hl) (fun j y hy hd=>hs (j+1) y (by simpa using hy) hd);by_cases hx:x.dst=some d
  ·rw[hs 0 x rfl hx];cases S' 0
   ·exact he
   ·simp only[cond_true];rw[fA,fA,if_pos hx,if_pos hx]
  ·cases S 0<;>cases S' 0<;>simp only[cond_true,cond_false,gZ hx]<;>exact he
theorem Bj:∀(l:List bK) (tr:List aQ) (S S':Nat→Bool) (i:Nat) (x:bK) (m:aQ) (e:Env) (d:Nat),tr.length=l.length→l[i]?=some x→tr[i]?=some m→
  (∀j,S' j=(S j||decide (j=i)))→S i=false→(∀j y,i<j→l[j]?=some y→x.dst=some d→y.dst=some d→S j=false)→
  (gD S' l tr e).get d=((gD S l tr e).put x.dst m.v).get d
 |[],tr,S,S',i,x,m,e,d,hl,hx,hm,hs,hsi,Hv=>by simp at hx
 |y::l,[],S,S',i,x,m,e,d,hl,hx,hm,hs,hsi,Hv=>by simp at hl
 |y::l,n::tr,S,S',i,x,m,e,d,hl,hx,hm,hs,hsi,Hv=>by
  simp only[gD];cases i with
  |zero=>
   simp at hx hm;subst hx;subst hm;rw[hs 0,hsi];simp only[decide_true,Bool.or_true,cond_true,cond_false];by_cases hd:y.dst=some d
   ·rw[fA,if_pos hd];have:(gD (fun j=>S' (j+1)) l tr (e.put y.dst n.v)).get d=(dF l tr 0 (e.put y.dst n.v)).get d:=by
     refine o5 l tr _ 0 d _ _ rfl (by simpa using hl) (fun j z hz YY=>?_);rw[hs (j+1),Hv (j+1) z (by omega) (by simpa using hz) hd YY];simp
    rw[this];have:dF l tr 0 (e.put y.dst n.v)=e.put y.dst n.v:=by cases l<;>cases tr<;>simp[dF]
    rw[this,fA,if_pos hd]
   ·rw[gZ hd];refine xh l tr _ _ d _ _ (gZ hd) (by simpa using hl) (fun j z hz YY=>?_);rw[hs (j+1)];simp
  |succ i=>
   simp at hx hm;have h0:S' 0=S 0:=by rw[hs 0];simp
   rw[h0];refine Bj l tr _ _ i x m _ d (by simpa using hl) hx hm (fun j=>?_) hsi (fun j z hj hz YX YY=>Hv (j+1) z (by omega) (by simpa using hz) YX YY);rw[hs (j+1)];simp
def uAt(l:List bK)(tr:List aQ)(h':Heap)(c:Nat):Heap:=cY l tr h' c
theorem uB:∀(l:List bK) (tr:List aQ) (t t':Tr dm) (b:Nat),t.get b=t'.get b→(fJ l tr t).get b=(fJ l tr t').get b
 |[],tr,t,t',b,h=>by cases tr<;>simpa[fJ] using h
 |x::l,[],t,t',b,h=>by simpa[fJ] using h
 |x::l,m::tr,t,t',b,h=>by
  simp only[fJ];split
  ·refine uB l tr _ _ b ?_;rw[Tr.bP,Tr.bP,h]
  ·exact uB l tr _ _ b h
theorem x7:∀(l:List bK) (tr:List aQ) (t:Tr dm) (b:Nat),(∀(j:Nat) (x:bK) (m:aQ),l[j]?=some x→tr[j]?=some m→eH x m≠none→m.h.next≠b)→
  (fJ l tr t).get b=t.get b
 |[],tr,t,b,h=>by cases tr<;>simp[fJ]
 |x::l,[],t,b,h=>by simp[fJ]
 |x::l,m::tr,t,b,h=>by
  have ht:=fun t=>x7 l tr t b (fun j y n hy hn=>h (j+1) y n (by simpa using hy) (by simpa using hn));simp only[fJ];split
  ·rename_i bk hb;rw[ht,Tr.bP,if_neg];intro e;exact h 0 x m rfl rfl (by rw[hb];simp) e.symm
  ·exact ht t
end
end Ads
end Go.Proofs.Ytepdklcpagielaa
set_option linter.unusedSimpArgs false
set_option linter.unusedVariables false
namespace Go.Proofs.Ytepdklcpagielaa
namespace Ads
section
variable {P:Program} {H0:Nat} {ro:Option Nat} {n:Nat}
theorem B9(ro:Option Nat)(n:Nat):(FW ro).room n:=fun _ h=>by simp[FW,Fence.wide] at h
theorem E6{o:Oper}{a:Act}{w:World}{next:Act→World→Prop}{Q:Exit→Act→World→Prop}(h:o.wpIn (FW ro) n P a w next Q):
  (∃a' w',next a' w')∨∃ex a' w',Q ex a' w':=by
 have h:=h.2;generalize(o.semAt (FW ro).round a.eval).run P w=r at h;cases r with
 |ok x w'=>
  cases x<;>simp only[Oper.uponIn] at h
  case value v=>exact .inl ⟨_,_,h⟩
  case skip=>exact .inl ⟨_,_,h⟩
  case defer d=>exact .inl ⟨_,_,h⟩
  case enter f args=>
   obtain⟨e,w'',fr,hr,_⟩:=h.2.2 [] (B9 _ _);cases e with
   |returned v=>exact .inl ⟨_,_,hr⟩
   |panicked c=>exact .inr ⟨_,_,_,hr⟩
   |outgrown=>obtain⟨a1,w1,hq⟩:=hr;exact .inr ⟨_,_,_,hq⟩
  case row row args=>
   obtain⟨v,w'',hr,_⟩:=h.2 (Frame.ofRow P row args .normal) [] (B9 _ _);exact .inl ⟨_,_,hr⟩
  case round l f tmps as bd=>
   obtain⟨e,w'',hr,_⟩:=h.2.2 (Frame.ofRow P "" #[] .normal) [] (B9 _ _);cases e with
   |returned v=>exact .inl ⟨_,_,hr⟩
   |panicked c=>exact .inr ⟨_,_,_,hr⟩
   |outgrown=>obtain⟨a1,w1,hq⟩:=hr;exact .inr ⟨_,_,_,hq⟩
  all_goals (first|exact h.elim|skip)
 |halt x w'=>
  cases x<;>simp only[Oper.uponIn] at h
  case panic v=>exact .inr ⟨_,_,_,h⟩
  all_goals (first|exact h.elim|skip)
theorem mN{ops:Array Oper}{Q:Exit→Act→World→Prop}:∀{os:List Oper} {a:Act} {w:World},wpListIn (FW ro) n P ops Q os a w→∃ex a' w',Q ex a' w'
 |[],a,w,h=>⟨_,_,_,h⟩
 |o::os,a,w,h=>by
  unfold wpListIn at h;split at h
  ·rcases E6 h with⟨a',w',h'⟩|h'
   ·exact mN h'
   ·exact h'
  ·exact mN h.2
theorem zk{N:Nat}:∀{l:List bK} (i:Nat),dQ N l=true→dQ N (l.take i)=true
 |[],i,h=>by simp[dQ]
 |x::l,0,h=>by simp[dQ]
 |x::l,i+1,h=>by
  simp only[dQ,List.take_succ_cons,Bool.and_eq_true] at h⊢;exact⟨h.1,zk i h.2⟩
theorem zj{N:Nat}:∀{l:List bK} (i:Nat),dQ N l=true→dQ N (l.drop i)=true
 |[],i,h=>by simp[dQ]
 |x::l,0,h=>by simpa using h
 |x::l,i+1,h=>by
  simp only[dQ,Bool.and_eq_true] at h;simpa using zj i h.2
theorem wK{N:Nat}:∀{l:List bK} {i:Nat} {x:bK},dQ N l=true→l[i]?=some x→yE N x.dst=true
 |[],i,x,h,hx=>by simp at hx
 |y::l,0,x,h,hx=>by simp only[dQ,Bool.and_eq_true] at h;simp at hx;subst hx;exact h.1
 |y::l,i+1,x,h,hx=>by simp only[dQ,Bool.and_eq_true] at h;simp at hx;exact wK h.2 hx
theorem OT.vJ{l:List bK}{e:Env}{h:Heap}{tr:List aQ}{e':Env}{h':Heap}(ho:OT P H0 l e h tr e' h'){ops:Array Oper}{os:List Oper}
  (hos:os.map (bY P ops)=l){N:Nat}(hok:dQ N l=true){ρ:de}{D:Dom}{w:World}{a:Act}(hi:Inv P H0 ρ D h w)(he:cg ρ D N e a)(i:Nat):
  ∃ρ' w' a',Inv P H0 ρ' (grow D h.next (aF tr h' i).next) (aF tr h' i) w'∧cg ρ' (grow D h.next (aF tr h' i).next) N (dF l tr i e) a'∧h.next≤(aF tr h' i).next:=by
 have:=qp (ro:=none) (n:=0) (ho.take i) (ops:=ops) (os:=os.take i) (by rw[List.map_take,hos]) (zk i hok) hi he
  (Q:=fun _ a' w'=>∃ρ',Inv P H0 ρ' (grow D h.next (aF tr h' i).next) (aF tr h' i) w'∧cg ρ' (grow D h.next (aF tr h' i).next) N (dF l tr i e) a'∧h.next≤(aF tr h' i).next)
  (fun ρ' w' a' g1 g2 g3 g4=>⟨ρ',g1,g3,g2.next⟩)
 obtain⟨_,a',w',ρ',g⟩:=mN this;exact⟨ρ',w',a',g⟩
theorem OT.drop:∀{l:List bK} {e:Env} {h:Heap} {tr:List aQ} {e':Env} {h':Heap},OT P H0 l e h tr e' h'→∀i:Nat,
  OT P H0 (l.drop i) (dF l tr i e) (aF tr h' i) (tr.drop i) e' h'
 |[],e,h,tr,e',h',ho,i=>by
  cases tr with
  |cons _ _=>simp[OT] at ho
  |nil=>simp only[OT] at ho;obtain⟨rfl,rfl⟩:=ho;cases i<;>simp[OT,dF,aF,eO]
 |y::l,e,h,tr,e',h',ho,i=>by
  cases tr with
  |nil=>simp[OT] at ho
  |cons m tr=>
   cases i with
   |zero=>
    have:=ho.zero;simpa[dF,this] using ho
   |succ i=>
    simp only[OT] at ho;simp only[List.drop_succ_cons,dF];rcases ho.2.2 with⟨h1,h2,h3,hr⟩|⟨h1,h2,h4,h3,hr⟩
    ·have:=hr.drop i;rw[h3];exact this
    ·exact hr.drop i
theorem D3(tr:List aQ)(h':Heap)(i j:Nat):aF (tr.drop i) h' j=aF tr h' (i+j):=by
 unfold aF;rw[List.drop_drop]
structure Tra(P:Program)(H0:Nat)(D:Dom)(N:Nat)(l:List bK)(e:Env)(h:Heap)(tr:List aQ)(h':Heap):Prop where
 mono:∀i j,i≤j→(aF tr h' i).next≤(aF tr h' j).next
 low:∀i,h.next≤(aF tr h' i).next
 top:∀i b,(aF tr h' i).next≤b→(aF tr h' i).get b=none
 run:∀i,∃ρ' w' a',Inv P H0 ρ' (grow D h.next (aF tr h' i).next) (aF tr h' i) w'∧cg ρ' (grow D h.next (aF tr h' i).next) N (dF l tr i e) a'
theorem OT.wU{l:List bK}{e:Env}{h:Heap}{tr:List aQ}{e':Env}{h':Heap}(ho:OT P H0 l e h tr e' h'){ops:Array Oper}{os:List Oper}
  (hos:os.map (bY P ops)=l){N:Nat}(hok:dQ N l=true){ρ:de}{D:Dom}{w:World}{a:Act}(hi:Inv P H0 ρ D h w)(he:cg ρ D N e a):
  Tra P H0 D N l e h tr h' where
 mono:=fun i j hij=>by
  obtain⟨ρ',w',a',g1,g2,g3⟩:=ho.vJ hos hok hi he i;obtain⟨_,_,_,_,_,g⟩:=(ho.drop i).vJ (os:=os.drop i) (by rw[List.map_drop,hos]) (zj i hok) g1 g2 (j-i);rw[D3] at g;have:i+(j-i)=j:=by omega
  rw[this] at g;exact g
 low:=fun i=>by
  obtain⟨_,_,_,_,_,g⟩:=ho.vJ hos hok hi he i;exact g
 top:=fun i=>by
  obtain⟨_,_,_,g,_,_⟩:=ho.vJ hos hok hi he i;exact g.top
 run:=fun i=>by
  obtain⟨ρ',w',a',g1,g2,_⟩:=ho.vJ hos hok hi he i;exact⟨ρ',w',a',g1,g2⟩
end
mutual
theorem lg{D D':Dom}:∀{v:AV},v.bq D→v.bq D'→v.bq fun b=>D b∧D' b
 |.bool _,_,_|.int _ _,_,_|.str _,_,_|.kI,_,_|.aD,_,_|.gO _,_,_|.kR,_,_|.kH,_,_|.kr,_,_=>by simp[AV.bq]
 |.ptr b o,h,h'=>by simp only[AV.bq] at*;exact⟨h,h'⟩
 |.sl b o l c op,h,h'=>by simp only[AV.bq] at*;exact⟨h,h'⟩
 |.rest b o k,h,h'=>by simp only[AV.bq] at*;exact⟨h,h'⟩
 |.map b,h,h'=>by simp only[AV.bq] at*;exact⟨h,h'⟩
 |.yield b,h,h'=>by simp only[AV.bq] at*;exact⟨h,h'⟩
 |.func fn first aN,h,h'=>by
  simp only[AV.bq] at*;exact⟨h.1,nA h.2.1 h'.2.1,nA h.2.2 h'.2.2⟩
 |.iface t v,h,h'=>by
  simp only[AV.bq] at*;exact lg h h'
 |.agg cs,h,h'=>by
  simp only[AV.bq] at*;exact nA h h'
 |.cQ cs,h,h'=>by
  simp only[AV.bq] at*;exact nA h h'
 |.fz _ _,h,h'=>by simp only[AV.bq] at h
 |.fp _ _,h,h'=>by simp only[AV.bq] at h
theorem nA{D D':Dom}:∀{l:List AV},bE D l→bE D' l→bE (fun b=>D b∧D' b) l
 |[],_,_=>by simp[bE]
 |v::vs,h,h'=>by
  simp only[bE] at*;exact⟨lg h.1 h'.1,nA h.2 h'.2⟩
end
theorem Ap{P:Program}{H0:Nat}{ρ ρ':de}{D D':Dom}{L L':Loc}{x:dm}{w w':World}(h:fu P H0 ρ D L x w)(h':fu P H0 ρ' D' L' x w'):
  fu P H0 ρ (fun b=>D b∧D' b) L x w:=by
 cases x with
 |cells vs wr es=>
  obtain⟨c,t,fr,hc,h1,h2⟩:=h;obtain⟨c',t',fr',lf,La,rF⟩:=h';exact⟨c,t,fr,hc,fun i v hv=>⟨(h1 i v hv).1,lg (h1 i v hv).2 (La i v hv).2⟩,h2⟩
 |map es bs c=>
  obtain⟨ms,k,hc,h0,h1,h2,h3⟩:=h;obtain⟨ms',k',lf,Un,La,rF,_⟩:=h';exact⟨ms,k,hc,h0,h1,fun p hp=>⟨lg (h2 p hp).1 (rF p hp).1,lg (h2 p hp).2 (rF p hp).2⟩,h3⟩
 |iter m since seen last=>
  obtain⟨h0,hm,ho,sn,hc,hs⟩:=h;exact⟨h0,⟨hm,h'.2.1⟩,ho,sn,hc,hs⟩
 |loop st cF e ps a b=>
  obtain⟨h0,l,hl,g1,g2,g3,g4,g5⟩:=h;obtain⟨Un,l',hl',g1',QL,g3',g4',g5'⟩:=h';exact⟨h0,l,hl,g1,g2,g3,fun i=>lg (g4 i) (g4' i),g5⟩
 |defers=>exact h
end Ads
end Go.Proofs.Ytepdklcpagielaa
set_option linter.unusedSimpArgs false
set_option linter.unusedVariables false
namespace Go.Proofs.Ytepdklcpagielaa
namespace Ads
def qV(bs:List Nat)(j i:Nat):Prop:=(bs.getD j 0).testBit i=true
structure Rg(P:Program)(H0:Nat)(D:Dom)(N:Nat)(l:List bK)(bs:List Nat)(e:Env)(h:Heap)(tr:List aQ)(e':Env)(h':Heap):Prop where
 ot:OT P H0 l e h tr e' h'
 wU:Tra P H0 D N l e h tr h'
 OK:∀b,D b→b<h.next
 pairs:∀(i j:Nat) (x y:bK),i<j→l[i]?=some x→l[j]?=some y→qV bs j i∨(¬(cC x.op=true∧cC y.op=true)∧pU x y=true)
 ok:dQ N l=true
section
variable {P:Program} {H0:Nat} {D:Dom} {N:Nat} {l:List bK} {bs:List Nat} {e:Env} {h:Heap} {tr:List aQ} {e':Env} {h':Heap}
theorem Rg.le_last(R:Rg P H0 D N l bs e h tr e' h')(c:Nat):(aF tr h' c).next≤h'.next:=by
 by_cases hc:c≤l.length
 ·have:=R.wU.mono c l.length hc
  rwa [R.ot.last (Nat.le_refl _)] at this
 ·rw[R.ot.last (by omega)];exact Nat.le_refl _
theorem Rg.made(R:Rg P H0 D N l bs e h tr e' h'){j:Nat}{x:bK}{m:aQ}{b:dm}(hx:l[j]?=some x)(hm:tr[j]?=some m)(hb:eH x m=some b):
  (∃o f,x.op=.a o∧m.on=true∧aI o m.vals=some (b,f)∧m.v=f (aF tr h' j).next)∧aF tr h' (j+1)=(aF tr h' j).new b∧m.h=aF tr h' j:=by
 obtain⟨m',g1,g2,g3,g4⟩:=R.ot.at hx;rw[hm] at g1;cases g1
 unfold eH at hb;split at hb
 ·rename_i o ho dZ;simp only[Option.map_eq_some_iff] at hb;obtain⟨⟨b',f⟩,hb,rfl⟩:=hb;rcases g4 with g4|⟨k1,k2,k3⟩
  ·rw[g4.1] at dZ;simp at dZ
  ·rw[ho] at k3;obtain⟨x',f',q1,q2,q3⟩:=k3;rw[hb] at q1;cases q1
   exact⟨⟨o,f,ho,dZ,hb,q2⟩,q3,g2⟩
 ·simp at hb
theorem Rg.still(R:Rg P H0 D N l bs e h tr e' h'){j:Nat}{x:bK}{m:aQ}(hx:l[j]?=some x)(hm:tr[j]?=some m)(hb:eH x m=none)(he:cC x.op=false):
  aF tr h' (j+1)=aF tr h' j:=by
 obtain⟨m',g1,g2,g3,g4⟩:=R.ot.at hx;rw[hm] at g1;cases g1
 rcases g4 with g4|⟨k1,k2,k3⟩
 ·exact g4.2.2.2
 ·cases ho:x.op with
  |p o=>rw[ho] at k3;exact k3.2
  |r o=>rw[ho] at k3;exact k3.2
  |a o=>
   rw[ho] at k3;obtain⟨x',f',q1,q2,q3⟩:=k3;unfold eH at hb;rw[ho,k1] at hb;simp[q1] at hb
  |bad=>rw[ho] at k3;exact k3.elim
  |e o=>rw[ho] at he;simp[cC] at he
  |call=>rw[ho] at he;simp[cC] at he
  |invoke s=>rw[ho] at he;simp[cC] at he
  |panic=>rw[ho] at he;simp[cC] at he
theorem Rg.HZ(R:Rg P H0 D N l bs e h tr e' h'){j:Nat}{x:bK}(hx:l[j]?=some x):∃m,tr[j]?=some m:=by
 obtain⟨m,g,_⟩:=R.ot.at hx;exact⟨m,g⟩
theorem Rg.Ef(R:Rg P H0 D N l bs e h tr e' h'){j i:Nat}{x:bK}{m:aQ}{b:dm}(hx:l[j]?=some x)(hm:tr[j]?=some m)(hb:eH x m=some b)(hji:j<i):
  (aF tr h' j).next<(aF tr h' i).next:=by
 have h1:=R.made hx hm hb;have h2:=R.wU.mono (j+1) i (by omega);rw[h1.2.1] at h2;simp at h2;omega
theorem Rg.H9(R:Rg P H0 D N l bs e h tr e' h'){c b:Nat}(hb:b<(aF tr h' c).next):(cY l tr h' c).get b=(aF tr h' c).get b:=by
 refine x7 _ _ _ b ?_;intro j x m hx hm hne;rw[List.getElem?_drop] at hx hm;obtain⟨bk,FQ⟩:=Option.ne_none_iff_exists'.1 hne;rw[(R.made hx hm FQ).2.2];have:=R.wU.mono c (c+j) (by omega);omega
theorem Ev:∀(l:List bK) (tr:List aQ) (t:Tr dm) (j:Nat) (x:bK) (m:aQ) (b:dm),l[j]?=some x→tr[j]?=some m→eH x m=some b→
  (∀(i:Nat) (y:bK) (n:aQ),j<i→l[i]?=some y→tr[i]?=some n→eH y n≠none→n.h.next≠m.h.next)→(fJ l tr t).get m.h.next=some b
 |[],tr,t,j,x,m,b,hx,hm,hb,hi=>by simp at hx
 |y::l,[],t,j,x,m,b,hx,hm,hb,hi=>by simp at hm
 |y::l,n::tr,t,0,x,m,b,hx,hm,hb,hi=>by
  simp at hx hm;subst hx;subst hm;simp only[fJ,hb];rw[x7,Tr.bP,if_pos rfl];intro i z k hz hk hne;exact hi (i+1) z k (by omega) (by simpa using hz) (by simpa using hk) hne
 |y::l,n::tr,t,j+1,x,m,b,hx,hm,hb,hi=>by
  have:=fun t=>Ev l tr t j x m b (by simpa using hx) (by simpa using hm) hb (fun i z k hlt hz hk=>hi (i+1) z k (by omega) (by simpa using hz) (by simpa using hk));simp only[fJ];split
  ·exact this _
  ·exact this _
theorem Rg.TY(R:Rg P H0 D N l bs e h tr e' h'){c j:Nat}{x:bK}{m:aQ}{b:dm}(hx:l[j]?=some x)(hm:tr[j]?=some m)(hb:eH x m=some b)(hc:c≤j):
  (cY l tr h' c).get (aF tr h' j).next=some b:=by
 have D8:=(R.made hx hm hb).2.2;have:=Ev (l.drop c) (tr.drop c) (eO (tr.drop c) h').m (j-c) x m b (by rw[List.getElem?_drop];rw[show c+(j-c)=j by omega];exact hx)
  (by rw[List.getElem?_drop];rw[show c+(j-c)=j by omega];exact hm) hb (fun i y n hlt hy hn hne=>by
   rw[List.getElem?_drop] at hy hn;obtain⟨bk,FQ⟩:=Option.ne_none_iff_exists'.1 hne;rw[(R.made hy hn FQ).2.2,D8];have:=R.Ef hx hm hb (i:=c+i) (by omega);omega)
 rw[D8] at this;exact this
theorem Rg.Ru(R:Rg P H0 D N l bs e h tr e' h'){c b:Nat}(hb:h'.next≤b):(cY l tr h' c).get b=none:=by
 have:(cY l tr h' c).get b=(aF tr h' c).get b:=by
  refine x7 _ _ _ b ?_;intro j x m hx hm hne;rw[List.getElem?_drop] at hx hm;obtain⟨bk,FQ⟩:=Option.ne_none_iff_exists'.1 hne;rw[(R.made hx hm FQ).2.2];have h1:=R.Ef hx hm FQ (i:=c+j+1) (by omega);have h2:=R.le_last (c+j+1);omega
 rw[this];exact R.wU.top c b (Nat.le_trans (R.le_last c) hb)
theorem drop_cons{α:Type}{l:List α}{i:Nat}{x:α}(h:l[i]?=some x):l.drop i=x::l.drop (i+1):=by
 obtain⟨hlt,rfl⟩:=List.getElem?_eq_some_iff.1 h;exact List.drop_eq_getElem_cons hlt
theorem Rg.TZ(R:Rg P H0 D N l bs e h tr e' h'){i:Nat}{x:bK}(hx:l[i]?=some x)(he:cC x.op=false)(b:Nat):
  (cY l tr h' i).get b=(cY l tr h' (i+1)).get b:=by
 obtain⟨m,hm⟩:=R.HZ hx;show(fJ (l.drop i) (tr.drop i) (aF tr h' i).m).get b=(fJ (l.drop (i+1)) (tr.drop (i+1)) (aF tr h' (i+1)).m).get b;rw[drop_cons hx,drop_cons hm];simp only[fJ];cases hb:eH x m with
 |none=>simp only[];rw[R.still hx hm hb he]
 |some bk=>
  simp only[];have:=R.made hx hm hb;rw[this.2.1,this.2.2];rfl
theorem Rg.wV(R:Rg P H0 D N l bs e h tr e' h'){c:Nat}(b:Nat):∀(k:Nat),(∀j x,c≤j→j<c+k→l[j]?=some x→cC x.op=false)→(cY l tr h' c).get b=(cY l tr h' (c+k)).get b
 |0,_=>rfl
 |k+1,hn=>by
  rw[R.wV b k (fun j x h1 h2=>hn j x h1 (by omega))];cases hx:l[c+k]? with
  |some x=>exact R.TZ hx (hn (c+k) x (by omega) (by omega) hx) b
  |none=>
   have hlen:l.length≤c+k:=List.getElem?_eq_none_iff.1 hx;show(fJ (l.drop (c+k)) (tr.drop (c+k)) (aF tr h' (c+k)).m).get b=(fJ (l.drop (c+k+1)) (tr.drop (c+k+1)) (aF tr h' (c+k+1)).m).get b;have e1:l.drop (c+k)=[]:=List.drop_eq_nil_of_le hlen;have e2:l.drop (c+k+1)=[]:=List.drop_eq_nil_of_le (by omega);rw[R.ot.last hlen,R.ot.last (i:=c+k+1) (by omega),e1,e2];simp[fJ]
theorem Rg.Xs(R:Rg P H0 D N l bs e h tr e' h'){i:Nat}{x:bK}(hx:l[i]?=some x)(he:cC x.op=true){b:Nat}(hb:(aF tr h' (i+1)).next≤b):
  (cY l tr h' i).get b=(cY l tr h' (i+1)).get b:=by
 obtain⟨m,hm⟩:=R.HZ hx;show(fJ (l.drop i) (tr.drop i) (aF tr h' i).m).get b=(fJ (l.drop (i+1)) (tr.drop (i+1)) (aF tr h' (i+1)).m).get b;rw[drop_cons hx,drop_cons hm];have hn:eH x m=none:=by
  unfold eH;split
  ·rename_i o ho dZ;rw[ho] at he;simp[cC] at he
  ·rfl
 simp only[fJ,hn];refine uB _ _ _ _ b ?_;have h1:=R.wU.top (i+1) b hb;have h2:=R.wU.top i b (Nat.le_trans (R.wU.mono i (i+1) (by omega)) hb);unfold Heap.get at h1 h2;rw[h1,h2]
def Cut(l:List bK)(S:Nat→Bool)(c:Nat):Prop:=∀j x,l[j]?=some x→cC x.op=true→(S j=true↔j<c)
theorem Rg.H7(R:Rg P H0 D N l bs e h tr e' h'){S:Nat→Bool}{c c':Nat}(h1:Cut l S c)(h2:Cut l S c')(b:Nat):(cY l tr h' c).get b=(cY l tr h' c').get b:=by
 have key:∀c c',c≤c'→Cut l S c→Cut l S c'→(cY l tr h' c).get b=(cY l tr h' c').get b:=by
  intro c c' hle g1 g2;have:=R.wV (c:=c) b (c'-c) (fun j x hj1 hj2 hx=>by
   cases hx':cC x.op with
   |false=>rfl
   |true=>
    have a1:=g1 j x hx hx';have a2:=g2 j x hx hx';have:=a1.1 (a2.2 (by omega));omega)
  rwa [show c+(c'-c)=c' by omega] at this
 by_cases hle:c≤c'
 ·exact key c c' hle h1 h2
 ·exact(key c' c (by omega) h2 h1).symm
def DS(D:Dom)(l:List bK)(tr:List aQ)(h':Heap)(S:Nat→Bool):Dom:=fun b=>
 D b∨∃j,S j=true∧j<l.length∧(aF tr h' j).next≤b∧b<(aF tr h' (j+1)).next
structure J(P:Program)(H0:Nat)(D:Dom)(N:Nat)(l:List bK)(bs:List Nat)(e:Env)(h:Heap)(tr:List aQ)(h':Heap)(tY:de)(w0:World)(a0:Act)
  (S:Nat→Bool)(c:Nat)(ρ:de)(a:Act)(w:World):Prop where
 cut:Cut l S c
 closed:∀j,S j=true→∀i,qV bs j i→S i=true
 inv:Inv P H0 ρ (DS D l tr h' S) (cY l tr h' c) w
 ext:Ext tY D h w0 ρ (cY l tr h' c) w
 made:∀(j:Nat) (x:bK) (m:aQ) (bk:dm),l[j]?=some x→tr[j]?=some m→eH x m=some bk→S j=false→(cY l tr h' c).get (aF tr h' j).next=some bk
 env:cg ρ (DS D l tr h' S) N (gD S l tr e) a
 defers:a.defers=a0.defers
theorem Inv.congr{ρ:de}{h2:Heap}{w:World}(i:Inv P H0 ρ D h w)(hn:h2.next=h.next)(hg:∀b,h2.get b=h.get b):Inv P H0 ρ D h2 w:=by
 have jN:∀b,h2.wr b=h.wr b:=fun b=>by simp only[Heap.wr,hg]
 refine⟨fun b hb=>by rw[hn];exact i.lt b hb,fun b hb=>by rw[hg];exact i.top b (by omega),i.low,fun b x hb hx=>i.cj b x hb (by rw[←hg];exact hx),fun b b' hb hb' hne hw hx=>?_⟩;rw[jN] at hw;rw[hg] at hx;exact i.apart b b' hb hb' hne hw hx
theorem Ext.congr{ρ ρ':de}{h2 h3:Heap}{w w':World}(x:Ext ρ D h w ρ' h2 w')(hn:h3.next=h2.next)(hg:∀b,h3.get b=h2.get b):Ext ρ D h w ρ' h3 w':=by
 have jN:∀b,h3.wr b=h2.wr b:=fun b=>by simp only[Heap.wr,hg]
 exact⟨by rw[hn];exact x.next,x.bS,x.size,x.frame,fun b h1 h2=>by rw[hg];exact x.jq b h1 h2,fun b h1 h2=>by rw[hg] at h2;rw[jN];exact x.old b h1 h2,
  fun b h1 h2=>x.fresh b h1 (by omega),x.tape,x.os,x.output⟩
theorem cg.congr{ρ:de}{e1 e2:Env}{a:Act}(he:cg ρ D N e1 a)(hg:∀d,e2.get d=e1.get d):cg ρ D N e2 a:=
 ⟨he.size,fun i=>by rw[hg];exact he.get i,fun i=>by rw[hg];exact he.dom i⟩
theorem Rg.uT(R:Rg P H0 D N l bs e h tr e' h'){S:Nat→Bool}{c i:Nat}{x:bK}(Cw:Cut l S c)(jQ:∀j,S j=true→∀i,qV bs j i→S i=true)(hx:l[i]?=some x)(hsi:S i=false)
  (hpre:∀j,qV bs i j→S j=true):Cut l (fun j=>S j||decide (j=i)) (cond (cC x.op) (i+1) c)∧(cC x.op=true→Cut l S i):=by
 have hi:cC x.op=true→Cut l S i:=by
  intro he j y hy Q4;constructor
  ·intro hs;by_cases hji:j<i
   ·exact hji
   ·have hne:j≠i:=by rintro rfl;rw[hs] at hsi;simp at hsi
    rcases R.pairs i j x y (by omega) hx hy with hb|hb
    ·have:=jQ j hs i hb;rw[this] at hsi;simp at hsi
    ·exact absurd ⟨he,Q4⟩ hb.1
  ·intro hji;rcases R.pairs j i y x hji hy hx with hb|hb
   ·exact hpre j hb
   ·exact absurd ⟨Q4,he⟩ hb.1
 refine⟨?_,hi⟩;cases he:cC x.op with
 |true=>
  intro j y hy Q4;have:=hi he j y hy Q4;by_cases hji:j=i
  ·subst hji;simp
  ·simp[hji,this];omega
 |false=>
  intro j y hy Q4;have hne:j≠i:=by rintro rfl;rw[hx] at hy;cases hy;rw[he] at Q4;simp at Q4
  simp[hne,Cw j y hy Q4]
theorem Rg.slot(R:Rg P H0 D N l bs e h tr e' h'){S:Nat→Bool}{i:Nat}{x:bK}(jQ:∀j,S j=true→∀i,qV bs j i→S i=true)(hx:l[i]?=some x)(hsi:S i=false)
  (hpre:∀j,qV bs i j→S j=true){d:Nat}(hd:d∈x.reads):(gD S l tr e).get d=(dF l tr i e).get d:=by
 refine o5 l tr S i d e e rfl R.ot.length ?_;intro j y hy Ff;have hnm:x.names.contains d=true:=by simp[bK.names,hd]
 by_cases hji:j<i
 ·rw[decide_eq_true hji];rcases R.pairs j i y x hji hy hx with hb|hb
  ·exact hpre j hb
  ·have:=hb.2;unfold pU at this;rw[Ff] at this;simp only[hnm] at this;simp at this
 ·rw[decide_eq_false hji];by_cases he:j=i
  ·subst he;exact hsi
  ·rcases R.pairs i j x y (by omega) hx hy with hb|hb
   ·cases hs:S j with
    |false=>rfl
    |true=>have:=jQ j hs i hb;rw[this] at hsi;simp at hsi
   ·have:=hb.2;unfold pU at this;rw[Ff] at this;simp only[hnm] at this;simp at this
theorem Rg.late(R:Rg P H0 D N l bs e h tr e' h'){S:Nat→Bool}{i:Nat}{x:bK}(jQ:∀j,S j=true→∀i,qV bs j i→S i=true)(hx:l[i]?=some x)(hsi:S i=false)
  {d:Nat}{j:Nat}{y:bK}(hij:i<j)(hy:l[j]?=some y)(SR:x.dst=some d)(Ff:y.dst=some d):S j=false:=by
 rcases R.pairs i j x y hij hx hy with hb|hb
 ·cases hs:S j with
  |false=>rfl
  |true=>have:=jQ j hs i hb;rw[this] at hsi;simp at hsi
 ·have:=hb.2;unfold pU at this;rw[Ff,SR] at this;simp[bK.names,Ff] at this
end
end Ads
end Go.Proofs.Ytepdklcpagielaa
set_option linter.unusedSimpArgs false
set_option linter.unusedVariables false
namespace Go.Proofs.Ytepdklcpagielaa
namespace Ads
section
variable {P:Program} {H0:Nat} {D:Dom} {N:Nat} {l:List bK} {bs:List Nat} {e:Env} {h:Heap} {tr:List aQ} {e':Env} {h':Heap}
 {tY:de} {w0:World} {a0:Act} {S:Nat→Bool} {c:Nat} {ρ:de} {a:Act} {w:World} {i:Nat} {x:bK} {m:aQ}
def dY(S:Nat→Bool)(i:Nat):Nat→Bool:=fun j=>S j||decide (j=i)
theorem lV(hi:i<l.length)(b:Nat):DS D l tr h' (dY S i) b↔DS D l tr h' S b∨((aF tr h' i).next≤b∧b<(aF tr h' (i+1)).next):=by
 constructor
 ·rintro(hb|⟨j,hs,hj,h1,h2⟩)
  ·exact .inl (.inl hb)
  ·by_cases hji:j=i
   ·subst hji;exact .inr ⟨h1,h2⟩
   ·simp only[dY,hji,decide_false,Bool.or_false] at hs;exact .inl (.inr ⟨j,hs,hj,h1,h2⟩)
 ·rintro((hb|⟨j,hs,hj,h1,h2⟩)|hb)
  ·exact .inl hb
  ·exact .inr ⟨j,by simp[dY,hs],hj,h1,h2⟩
  ·exact .inr ⟨i,by simp[dY],hi,hb.1,hb.2⟩
theorem Ka(hi:i<l.length)(hs:aF tr h' (i+1)=aF tr h' i):DS D l tr h' (dY S i)=DS D l tr h' S:=by
 funext b
 rw[eq_iff_iff,lV hi,hs];constructor
 ·rintro(hb|hb)
  ·exact hb
  ·omega
 ·exact .inl
theorem Heap.kM{h1 h2:Heap}{b:Nat}(hg:h1.get b=h2.get b):h1.wr b=h2.wr b:=by simp only[Heap.wr,hg]
structure Up(bs:List Nat)(l:List bK)(tr:List aQ)(S:Nat→Bool)(i:Nat)(x:bK)(m:aQ):Prop where
 hx:l[i]?=some x
 hm:tr[i]?=some m
 hsi:S i=false
 pre:∀j,qV bs i j→S j=true
theorem Up.lt(u:Up bs l tr S i x m):i<l.length:=(List.getElem?_eq_some_iff.1 u.hx).1
theorem J.rP(j:J P H0 D N l bs e h tr h' tY w0 a0 S c ρ a w)(u:Up bs l tr S i x m):∀k,dY S i k=true→∀k',qV bs k k'→dY S i k'=true:=by
 intro k hk k' hb;simp only[dY,Bool.or_eq_true,decide_eq_true_eq] at hk⊢;rcases hk with hk|rfl
 ·exact .inl (j.closed k hk k' hb)
 ·exact .inl (u.pre k' hb)
theorem J.zg(R:Rg P H0 D N l bs e h tr e' h')(j:J P H0 D N l bs e h tr h' tY w0 a0 S c ρ a w)(u:Up bs l tr S i x m){ρ':de}(iC:∀b,DS D l tr h' S b→ρ' b=ρ b)
  (hv:m.v.bq (DS D l tr h' (dY S i))):cg ρ' (DS D l tr h' (dY S i)) N (gD (dY S i) l tr e) (a.put x.dst (real ρ' m.v)):=by
 have h1:cg ρ' (DS D l tr h' (dY S i)) N (gD S l tr e) a:=j.env.mono iC (fun b hb=>(lV u.lt b).2 (.inl hb));refine(h1.put (wK R.ok u.hx) hv).congr ?_;intro d;exact Bj l tr S (dY S i) i x m e d R.ot.length u.hx u.hm (fun _=>rfl) u.hsi (fun k y hk hy SR Ff=>R.late j.closed u.hx u.hsi hk hy SR Ff)
theorem J.slots(R:Rg P H0 D N l bs e h tr e' h')(j:J P H0 D N l bs e h tr h' tY w0 a0 S c ρ a w)(u:Up bs l tr S i x m){d:Nat}(hd:d∈x.reads):
  (gD S l tr e).get d=(dF l tr i e).get d:=R.slot j.closed u.hx u.hsi u.pre hd
theorem mZ{rs:List bV}{t:Nat}(h:bV.t t∈rs):t∈iT rs:=by
 induction rs with
 |nil=>simp at h
 |cons r rs ih=>
  rcases List.mem_cons.1 h with rfl|hh
  ·simp[iT]
  ·cases r<;>simp[iT,ih hh]
theorem J.vals(R:Rg P H0 D N l bs e h tr e' h')(j:J P H0 D N l bs e h tr h' tY w0 a0 S c ρ a w)(u:Up bs l tr S i x m):x.args.map (gD S l tr e).ev=x.args.map (dF l tr i e).ev:=by
 refine List.map_congr_left fun r hr=>?_;cases r with
 |c v=>rfl
 |t d=>exact j.slots R u (List.mem_append_right _ (mZ hr))
theorem J.wanted(R:Rg P H0 D N l bs e h tr e' h')(j:J P H0 D N l bs e h tr h' tY w0 a0 S c ρ a w)(u:Up bs l tr S i x m):cz x (gD S l tr e)=cz x (dF l tr i e):=by
 unfold cz;cases hg:x.guard with
 |none=>rfl
 |some p=>
  obtain⟨d,want⟩:=p;simp only;rw[j.slots R u (by simp[bK.reads,hg])]
theorem J.quiet(R:Rg P H0 D N l bs e h tr e' h')(j:J P H0 D N l bs e h tr h' tY w0 a0 S c ρ a w)(u:Up bs l tr S i x m)(hst:aF tr h' (i+1)=aF tr h' i)(hmb:eH x m=none)
  (hv:m.v.bq (DS D l tr h' S)):J P H0 D N l bs e h tr h' tY w0 a0 (dY S i) (cond (cC x.op) (i+1) c) ρ (a.put x.dst (real ρ m.v)) w:=by
 have hcs:=R.uT j.cut j.closed u.hx u.hsi u.pre;have hds:DS D l tr h' (dY S i)=DS D l tr h' S:=Ka u.lt hst;have Ln:∀b,(cY l tr h' (cond (cC x.op) (i+1) c)).get b=(cY l tr h' c).get b:=by
  intro b;cases he:cC x.op with
  |false=>rfl
  |true=>
   rw[R.H7 j.cut (hcs.2 he) b];simp only[cond_true];show(fJ (l.drop (i+1)) (tr.drop (i+1)) (aF tr h' (i+1)).m).get b=(fJ (l.drop i) (tr.drop i) (aF tr h' i).m).get b;rw[drop_cons u.hx,drop_cons u.hm,hst];simp only[fJ,hmb]
 refine⟨hcs.1,j.rP u,?_,j.ext.congr rfl Ln,?_,?_,?_⟩
 ·rw[hds];exact j.inv.congr rfl Ln
 ·intro k y n bk hy hn hb hs;rw[Ln];refine j.made k y n bk hy hn hb ?_;simp only[dY,Bool.or_eq_false_iff] at hs;exact hs.1
 ·exact j.zg R u (fun _ _=>rfl) (by rw[hds];exact hv)
 ·rw[←j.defers];cases x.dst<;>rfl
theorem J.BL(j:J P H0 D N l bs e h tr h' tY w0 a0 S c ρ a w){c':Nat}(hg:∀(k:Nat) (y:bK) (n:aQ) (bk:dm),l[k]?=some y→tr[k]?=some n→eH y n=some bk→S k=false→k≠i→
   (cY l tr h' c).get (aF tr h' k).next=some bk→(cY l tr h' c').get (aF tr h' k).next=some bk):
  ∀(k:Nat) (y:bK) (n:aQ) (bk:dm),l[k]?=some y→tr[k]?=some n→eH y n=some bk→dY S i k=false→(cY l tr h' c').get (aF tr h' k).next=some bk:=by
 intro k y n bk hy hn hb hs;simp only[dY,Bool.or_eq_false_iff,decide_eq_false_iff_not] at hs;exact hg k y n bk hy hn hb hs.1 hs.2 (j.made k y n bk hy hn hb hs.1)
theorem Rg.HH(R:Rg P H0 D N l bs e h tr e' h'){k:Nat}{y:bK}{n:aQ}{bk:dm}(hy:l[k]?=some y)(hn:tr[k]?=some n)(hb:eH y n=some bk)(hs:S k=false):
  ¬DS D l tr h' S (aF tr h' k).next:=by
 rintro(hd|⟨q,hq,hql,h1,h2⟩)
 ·have:=R.OK _ hd;have:=R.wU.low k;omega
 ·by_cases hqk:q=k
  ·subst hqk;rw[hs] at hq;simp at hq
  ·by_cases hlt:q<k
   ·have:=R.wU.mono (q+1) k (by omega);omega
   ·have:=R.Ef hy hn hb (i:=q) (by omega);omega
theorem J.alloc(R:Rg P H0 D N l bs e h tr e' h')(j:J P H0 D N l bs e h tr h' tY w0 a0 S c ρ a w)(u:Up bs l tr S i x m){bk:dm}(hb:eH x m=some bk){obj:Obj}
  (Cu:∀ρ' D',(∀b,DS D l tr h' S b→D' b)→(∀b,DS D l tr h' S b→ρ' b=ρ b)→fu P H0 ρ' D' ⟨w.heap.size,0,0⟩ bk (w.alloc obj))
  (hv:m.v.bq (DS D l tr h' (dY S i))):
  J P H0 D N l bs e h tr h' tY w0 a0 (dY S i) c (mL ρ (aF tr h' i).next ⟨w.heap.size,0,0⟩) (a.put x.dst (real (mL ρ (aF tr h' i).next ⟨w.heap.size,0,0⟩) m.v)) (w.alloc obj):=by
 have hcs:=R.uT j.cut j.closed u.hx u.hsi u.pre;obtain⟨⟨o,f,ho,dZ,hai,Bz⟩,hst,D8⟩:=R.made u.hx u.hm hb;have hne:cC x.op=false:=by rw[ho];rfl
 rw[hne] at hcs;have hnot:=R.HH u.hx u.hm hb u.hsi;have cS:=j.made i x m bk u.hx u.hm hb u.hsi;generalize hid:(aF tr h' i).next=id at*
 have ir:(aF tr h' (i+1)).next=id+1:=by rw[hst];simp[hid]
 have hds:∀b,DS D l tr h' (dY S i) b↔DS D l tr h' S b∨b=id:=by
  intro b;rw[lV u.lt,ir,hid];constructor
  ·rintro(hb|hb)
   ·exact .inl hb
   ·exact .inr (by omega)
  ·rintro(hb|rfl)
   ·exact .inl hb
   ·exact .inr (by omega)
 have iC:∀b,DS D l tr h' S b→mL ρ id ⟨w.heap.size,0,0⟩ b=ρ b:=fun b hb=>lJ _ _ (by rintro rfl;exact hnot hb);have hold:∀r,r<w.heap.size→(w.alloc obj).heap[r]?=w.heap[r]?:=by
  intro r hr;show(w.heap.push obj)[r]?=_;rw[Array.getElem?_push,if_neg (by omega)]
 have hsz:(w.alloc obj).heap.size=w.heap.size+1:=by show(w.heap.push obj).size=_;simp
 have V0:id<h'.next:=by have:=R.le_last (i+1);omega
 have abw:h.next≤id:=by have:=R.wU.low i;omega
 refine⟨hcs.1,j.rP u,?_,?_,j.BL (fun _ _ _ _ _ _ _ _ _ hg=>hg),j.zg R u iC hv,?_⟩
 ·refine⟨?_,j.inv.top,by rw[hsz];have:=j.inv.low;omega,?_,?_⟩
  ·intro b hb;rcases(hds b).1 hb with hb|rfl
   ·exact j.inv.lt b hb
   ·exact V0
  ·intro b y hb hy;rcases(hds b).1 hb with hb|rfl
   ·have:=j.inv.cj b y hb hy;rw[iC b hb];exact cA this (fun b hb=>(hds b).2 (.inl hb)) iC (hold _ (iM this))
   ·rw[cS] at hy;cases hy
    rw[cw];exact Cu _ _ (fun b hb=>(hds b).2 (.inl hb)) iC
  ·intro b b' hb hb' Bx hw hg;rcases(hds b).1 hb with hb|rfl
   ·rw[iC b hb];rcases(hds b').1 hb' with hb'|rfl
    ·rw[iC b' hb'];exact j.inv.apart b b' hb hb' Bx hw hg
    ·rw[cw];have:=j.inv.Xv b hb hw;simp only;omega
   ·rcases(hds b').1 hb' with hb'|rfl
    ·rw[iC b' hb',cw];have:=j.inv.PD hb' hg;simp only;omega
    ·exact absurd rfl Bx
 ·have x0:=j.ext;refine⟨x0.next,?_,by rw[hsz];have:=x0.size;omega,?_,x0.jq,x0.old,?_,x0.tape,x0.os,x0.output⟩
  ·intro b hb;rw[iC b (.inl hb)];exact x0.bS b hb
  ·intro r hr hf;rw[hold r (by have:=x0.size;omega)];exact x0.frame r hr hf
  ·intro b ox iH;by_cases By:b=id
   ·subst By;rw[cw];exact .inl x0.size
   ·rw[lJ _ _ By];exact x0.fresh b ox iH
 ·rw[←j.defers];cases x.dst<;>rfl
end
end Ads
end Go.Proofs.Ytepdklcpagielaa
set_option linter.unusedSimpArgs false
set_option linter.unusedVariables false
namespace Go.Proofs.Ytepdklcpagielaa
namespace Ads
section
variable {P:Program} {H0:Nat} {D:Dom} {N:Nat} {l:List bK} {bs:List Nat} {e:Env} {h:Heap} {tr:List aQ} {e':Env} {h':Heap}
 {tY:de} {w0:World} {a0:Act} {S:Nat→Bool} {c:Nat} {ρ:de} {a:Act} {w:World} {i:Nat} {x:bK} {m:aQ} {ro:Option Nat} {n:Nat}
def only(e:Env):List Nat→Env
 |[]=>.nil
 |d::ds=>Tr.set (only e ds) d (e.get d)
theorem rS(e:Env)(d:Nat):∀ds:List Nat,(only e ds).get d=if d∈ds then e.get d else .undef
 |[]=>by simp[only,Env.get,Tr.get]
 |x::ds=>by
  show((Tr.set (only e ds) x (e.get x)).get d).getD .undef=_;rw[Tr.bP];by_cases hx:d=x
  ·subst hx;simp
  ·rw[if_neg hx];have:=rS e d ds;unfold Env.get at this;simp only[List.mem_cons,hx,false_or];exact this
def AW(ρ:de)(N:Nat)(e:Env)(a:Act):Act:={a with tmps:=Array.ofFn (n:=N) fun i=>real ρ (e.get i)}
theorem Ik{D:Dom}(hh:∀i,N≤i→real ρ (e.get i)=Go.undef)(hd:∀i,(e.get i).bq D):cg ρ D N e (AW ρ N e a) where
 size:=by simp[AW]
 get:=fun i=>by
  by_cases hi:i<N
  ·simp[AW,Array.getD_eq_getD_getElem?,hi]
  ·rw[hh i (by omega)];simp[AW,Array.getD_eq_getD_getElem?,hi]
 dom:=hd
theorem At{op:Op}{iop:gP}{rs:List bV}(hc:aH P op=some (iop,rs))(he:cC iop=true):
  (∀cs b,op≠.select cs b)∧∀y∈op.operands,∃r∈rs,ec y=some r:=by
 have key:∀(xs:List Operand) (rs:List bV),cO xs=some rs→∀y∈xs,∃r∈rs,ec y=some r:=by
  intro xs;induction xs with
  |nil=>intro rs h y hy;simp at hy
  |cons z xs ih=>
   intro rs h y hy;obtain⟨r,rs',rfl,h1,h2⟩:=ee h;rcases List.mem_cons.1 hy with rfl|hy
   ·exact⟨r,by simp,h1⟩
   ·obtain⟨r',hr',h3⟩:=ih rs' h2 y hy;exact⟨r',by simp[hr'],h3⟩
 cases op
 case store t a y=>
  simp only[aH,Option.bind_eq_some_iff] at hc;obtain⟨k,_,hc⟩:=hc;simp only[one,Option.map_eq_some_iff,Prod.mk.injEq] at hc;obtain⟨rs',hr,_,rfl⟩:=hc;exact⟨by simp,fun y hy=>key _ _ hr y (by simpa[Op.operands] using hy)⟩
 case panic y=>
  simp only[aH,one,Option.map_eq_some_iff,Prod.mk.injEq] at hc;obtain⟨rs',hr,_,rfl⟩:=hc;exact⟨by simp,fun y hy=>key _ _ hr y (by simpa[Op.operands] using hy)⟩
 case call k=>
  refine⟨by simp,fun y hy=>?_⟩;simp only[aH] at hc;split at hc
  ·rename_i f hf;simp only[Option.map_eq_some_iff,Prod.mk.injEq] at hc;obtain⟨rs',hr,_,rfl⟩:=hc;exact key _ _ hr y (by simpa[Op.operands,Call.operands,hf] using hy)
  ·rename_i f nm hf;simp only[Option.map_eq_some_iff,Prod.mk.injEq] at hc;obtain⟨rs',hr,_,rfl⟩:=hc;exact key _ _ hr y (by simpa[Op.operands,Call.operands,hf] using hy)
  ·rename_i b hf;have abP:(Op.call k).operands=k.args:=by simp[Op.operands,Call.operands,hf]
   rw[abP] at hy;have hy':y∈k.args.toList:=by simpa using hy
   split at hc
   ·exfalso;repeat' (first
     |(obtain⟨h2,_⟩:=aZ hc;subst h2;simp[cC] at he;done)
     |(simp at hc;done)
     |(split at hc))
   ·exfalso;obtain⟨h2,_⟩:=aZ hc;subst h2;simp[cC] at he
   ·exfalso;obtain⟨h2,_⟩:=aZ hc;subst h2;simp[cC] at he
   ·rename_i s z t u ts hargs fI;rw[hargs] at hy';split at hc
    ·split at hc
     ·simp at hc
     ·split at hc
      ·split at hc
       ·simp at hc
       ·exact key _ _ (aZ hc).2 y hy'
      ·simp at hc
    ·simp at hc
   ·rename_i s z t ts hargs fI;rw[hargs] at hy';split at hc
    ·simp only[Option.bind_eq_some_iff] at hc;obtain⟨size,hsz,hc⟩:=hc;exact key _ _ (aZ hc).2 y hy'
    ·simp at hc
   ·rename_i z t hargs fI;rw[hargs] at hy';split at hc
    ·simp only[Option.bind_eq_some_iff] at hc;obtain⟨u,_,hc⟩:=hc;exact key _ _ (aZ hc).2 y hy'
    ·exfalso;obtain⟨h2,_⟩:=aZ hc;subst h2;simp[cC] at he
    ·simp at hc
   ·rename_i z z2 t ts hargs fI;rw[hargs] at hy';split at hc
    ·split at hc
     ·exact key _ _ (aZ hc).2 y hy'
     ·simp at hc
    ·simp at hc
   ·simp at hc
 case range t x=>
  simp only[aH] at hc;split at hc
  ·exact⟨by simp,fun y hy=>key _ _ (aZ hc).2 y (by simpa[Op.operands] using hy)⟩
  ·simp at hc
 case next it s=>
  cases s with
  |true=>simp[aH] at hc
  |false=>
   simp only[aH] at hc;exact⟨by simp,fun y hy=>key _ _ (aZ hc).2 y (by simpa[Op.operands] using hy)⟩
 case mapUpdate t m k x=>
  simp only[aH] at hc;split at hc
  ·split at hc
   ·exact⟨by simp,fun y hy=>key _ _ (aZ hc).2 y (by simpa[Op.operands] using hy)⟩
   ·exfalso;obtain⟨h2,_⟩:=aZ hc;subst h2;simp[cC] at he
   ·exfalso;obtain⟨h2,_⟩:=aZ hc;subst h2;simp[cC] at he
   ·simp at hc
  ·simp at hc
 case insert t m k x=>
  simp only[aH] at hc;split at hc
  ·split at hc
   ·exact⟨by simp,fun y hy=>key _ _ (aZ hc).2 y (by simpa[Op.operands] using hy)⟩
   ·exfalso;obtain⟨h2,_⟩:=aZ hc;subst h2;simp[cC] at he
   ·exfalso;obtain⟨h2,_⟩:=aZ hc;subst h2;simp[cC] at he
   ·simp at hc
  ·simp at hc
 case unOp u t y=>
  exfalso;cases u<;>simp only[aH] at hc<;>first
   |(obtain⟨h2,_⟩:=aZ hc;subst h2;simp[cC] at he;done)
   |(simp at hc;done)
 case makeMap t r=>
  exfalso;cases r with
  |none=>simp only[aH] at hc;obtain⟨h2,_⟩:=aZ hc;subst h2;simp[cC] at he
  |some r=>simp[aH] at hc
 all_goals (exfalso;simp only[aH] at hc)
 all_goals repeat' (first
  |(simp only[Option.bind_eq_some_iff] at hc;obtain⟨_,_,hc⟩:=hc)
  |(simp only[Option.map_eq_some_iff] at hc;obtain⟨_,_,hc⟩:=hc;simp only[Prod.mk.injEq] at hc;obtain⟨hc,_⟩:=hc;subst hc;simp[cC] at he;done)
  |(obtain⟨h2,_⟩:=aZ hc;subst h2;simp[cC] at he;done)
  |(simp at hc;done)
  |(split at hc))
end
end Ads
end Go.Proofs.Ytepdklcpagielaa
set_option linter.unusedSimpArgs false
set_option linter.unusedVariables false
namespace Go.Proofs.Ytepdklcpagielaa
namespace Ads
section
variable {P:Program} {H0:Nat} {D:Dom} {N:Nat} {l:List bK} {bs:List Nat} {e:Env} {h:Heap} {tr:List aQ} {e':Env} {h':Heap}
 {tY:de} {w0:World} {a0:Act} {S:Nat→Bool} {c:Nat} {ρ:de} {a:Act} {w:World} {i:Nat} {x:bK} {m:aQ} {ro:Option Nat} {n:Nat}
theorem Jo{d:Option Nat}{a a2:Act}{u v:Value}(hd:yE N d=true)(h2:a2.tmps.size=N)(hp:a2.put d u=a2.put d v):a.put d u=a.put d v:=by
 cases d with
 |none=>rfl
 |some d=>
  have hlt:d<N:=Nat.le_of_ble_eq_true (show Nat.ble (d+1) N=true from hd);have:(a2.tmps.setIfInBounds d u)[d]?=(a2.tmps.setIfInBounds d v)[d]?:=congrArg (fun z:Act=>z.tmps[d]?) hp;simp[h2,hlt] at this;rw[this]
theorem put_defers{d:Option Nat}{a:Act}{v:Value}:(a.put d v).defers=a.defers:=by cases d<;>rfl
theorem GZ{o:Oper}{a a2:Act}{w:World}{next:Act→World→Prop}{Q:Exit→Act→World→Prop}(hd:yE N o.dst=true)(h2:a2.tmps.size=N)
  (hs:Oper.semAt (FW ro).round a.eval o=Oper.semAt (FW ro).round a2.eval o)
  (h:o.wpIn (FW ro) n P a2 w (fun z w'=>∃v,z=a2.put o.dst v∧next (a.put o.dst v) w') (fun _ _ _=>False)):o.wpIn (FW ro) n P a w next Q:=by
 refine⟨fun _ _=>trivial,?_⟩;rw[hs];have h:=h.2;generalize(Oper.semAt (FW ro).round a2.eval o).run P w=r at h;have key:∀(v:Value) (w':World),(∃v',a2.put o.dst v=a2.put o.dst v'∧next (a.put o.dst v') w')→next (a.put o.dst v) w':=by
  rintro v w' ⟨v',h1,h3⟩;rw[Jo (a:=a) hd h2 h1];exact h3
 cases r with
 |ok x w'=>
  cases x<;>simp only[Oper.uponIn] at h⊢
  case value v=>exact key _ _ h
  case skip=>exact key _ _ h
  case defer d=>
   exfalso;obtain⟨v,h1,_⟩:=h;have:=congrArg Act.defers h1;rw[put_defers,put_defers] at this;have:=congrArg List.length this;simp at this
  case enter f args=>
   exact⟨h.1,CallsIn.mono h.2 (fun e w'' he=>by
    cases e with
    |returned v=>exact key _ _ he
    |panicked c=>exact he.elim
    |outgrown=>obtain⟨_,_,q⟩:=he;exact q.elim)⟩
  case row row args=>exact⟨h.1,RowsIn.mono h.2 (fun _ _ he=>key _ _ he)⟩
  case round l f tmps as bd=>
   exact⟨h.1,RoundIn.mono h.2 (fun e w'' he=>by
    cases e with
    |returned v=>exact key _ _ he
    |panicked c=>exact he.elim
    |outgrown=>obtain⟨_,_,q⟩:=he;exact q.elim)⟩
  all_goals (first|exact h.elim|skip)
 |halt x w'=>
  cases x<;>simp only[Oper.uponIn] at h
def Ov(D:Dom)(l:List bK)(h:Heap)(tr:List aQ)(h':Heap)(S:Nat→Bool)(i:Nat):Dom:=fun b=>
 DS D l tr h' S b∧grow D h.next (aF tr h' i).next b
theorem RL(R:Rg P H0 D N l bs e h tr e' h'){b:Nat}(hb:DS D l tr h' S b)(hlt:b<(aF tr h' i).next):Ov D l h tr h' S i b:=by
 refine⟨hb,?_⟩;rcases hb with hb|⟨q,_,_,h1,_⟩
 ·exact .inl hb
 ·exact .inr ⟨Nat.le_trans (R.wU.low q) h1,hlt⟩
theorem rj(R:Rg P H0 D N l bs e h tr e' h'){b:Nat}(hb:Ov D l h tr h' S i b):b<(aF tr h' i).next:=by
 rcases hb.2 with hd|hd
 ·exact Nat.lt_of_lt_of_le (R.OK b hd) (R.wU.low i)
 ·exact hd.2
theorem J.before(R:Rg P H0 D N l bs e h tr e' h')(j:J P H0 D N l bs e h tr h' tY w0 a0 S c ρ a w)(u:Up bs l tr S i x m)(he:cC x.op=true):
  (∀b,b<(aF tr h' i).next→(aF tr h' i).get b=(cY l tr h' c).get b)∧Inv P H0 ρ (Ov D l h tr h' S i) (aF tr h' i) w:=by
 have hcs:=R.uT j.cut j.closed u.hx u.hsi u.pre;have hg:∀b,b<(aF tr h' i).next→(aF tr h' i).get b=(cY l tr h' c).get b:=by
  intro b hb;rw[R.H7 j.cut (hcs.2 he) b,R.H9 hb]
 refine⟨hg,fun b hb=>rj R hb,fun b hb=>R.wU.top i b hb,j.inv.low,?_,?_⟩
 ·intro b y hb hy;have hlt:=rj R hb;have h1:=j.inv.cj b y hb.1 (by rw[←hg b hlt];exact hy);obtain⟨No,wv,av,iv,_⟩:=R.wU.run i;exact Ap h1 (iv.cj b y hb.2 hy)
 ·intro b b' hb hb' hne hw hx;exact j.inv.apart b b' hb.1 hb'.1 hne (by rw[←Heap.kM (hg b (rj R hb))];exact hw) (by rw[←hg b' (rj R hb')];exact hx)
theorem J.effect(R:Rg P H0 D N l bs e h tr e' h')(j:J P H0 D N l bs e h tr h' tY w0 a0 S c ρ a w)(u:Up bs l tr S i x m)(he:cC x.op=true)
  {o:Oper}(hc:aH P o.op=some (x.op,x.args))(nJ:x.dst=o.dst)(Bz:m.vals=x.args.map (dF l tr i e).ev)
  (hop:xJ P H0 x.op m.vals (aF tr h' i) m.v (aF tr h' (i+1))){next:Act→World→Prop}{Q:Exit→Act→World→Prop}
  (hk:∀ρ' w',J P H0 D N l bs e h tr h' tY w0 a0 (dY S i) (i+1) ρ' (a.put x.dst (real ρ' m.v)) w'→next (a.put x.dst (real ρ' m.v)) w'):o.wpIn (FW ro) n P a w next Q:=by
 have hcs:=R.uT j.cut j.closed u.hx u.hsi u.pre;rw[he] at hcs;simp only[cond_true] at hcs;have Cw:=hcs.2 trivial;obtain⟨hg,hinv⟩:=j.before R u he;have hmono:=R.wU.mono i (i+1) (by omega);obtain⟨No,wv,av,iv,ev⟩:=R.wU.run i;have Ra:∀d,d∈iT x.args→(gD S l tr e).get d=(dF l tr i e).get d:=fun d hd=>j.slots R u (List.mem_append_right _ hd);have VK:cg ρ (Ov D l h tr h' S i) N (only (gD S l tr e) (iT x.args)) (AW ρ N (only (gD S l tr e) (iT x.args)) a):=by
  refine Ik (fun d hd=>?_) (fun d=>?_)
  ·rw[rS];split
   ·rw[←j.env.get d];simp[Array.getD_eq_getD_getElem?,j.env.size,Nat.not_lt.2 hd]
   ·exact gM ρ
  ·rw[rS];split
   ·rename_i hmem;refine lg (j.env.dom d) ?_;rw[Ra d hmem];exact ev.dom d
   ·simp[AV.undef,AV.bq,bE]
 have pq:x.args.map (only (gD S l tr e) (iT x.args)).ev=m.vals:=by
  rw[Bz];refine List.map_congr_left fun r hr=>?_;cases r with
  |c v=>rfl
  |t d=>
   show(only _ _).get d=(dF l tr i e).get d;rw[rS,if_pos (mZ hr)];exact Ra d (mZ hr)
 obtain⟨hsel,IY⟩:=At hc he;have hex:execOp a.eval o=execOp (AW ρ N (only (gD S l tr e) (iT x.args)) a).eval o:=by
  refine execOp_congr o hsel ?_;intro y hy;obtain⟨r,hr,hry⟩:=IY y hy;rw[(aM j.env hry).1,(aM VK hry).1];cases r with
  |c v=>rfl
  |t d=>
   show real ρ ((gD S l tr e).get d)=real ρ ((only _ _).get d);rw[rS,if_pos (mZ hr)]
 refine GZ (N:=N) (by rw[←nJ];exact wK R.ok u.hx) VK.size (by rw[zJ hc,zJ hc];exact hex) ?_;refine hop.sem o x.args hc ρ _ w _ N _ ro n hinv VK pq _ _ ?_;intro sF w1 i1 x1 hv1;refine⟨real sF m.v,rfl,?_⟩
 let j4:de:=fun b=>if(aF tr h' i).next≤b∧b<(aF tr h' (i+1)).next then sF b else ρ b
 have QU:∀b,(aF tr h' i).next≤b→b<(aF tr h' (i+1)).next→j4 b=sF b:=fun b h1 h2=>if_pos ⟨h1,h2⟩
 have QV:∀b,¬((aF tr h' i).next≤b∧b<(aF tr h' (i+1)).next)→j4 b=ρ b:=fun b h1=>if_neg h1;have Lc:∀b,DS D l tr h' S b→¬((aF tr h' i).next≤b∧b<(aF tr h' (i+1)).next):=by
  rintro b (hb|⟨q,hq,hql,h1,h2⟩) ⟨h3,h4⟩
  ·have:=R.OK b hb;have:=R.wU.low i;omega
  ·by_cases hqi:q=i
   ·subst hqi;rw[u.hsi] at hq;simp at hq
   ·by_cases hlt:q<i
    ·have:=R.wU.mono (q+1) i (by omega);omega
    ·have:=R.wU.mono (i+1) q (by omega);omega
 have iC:∀b,DS D l tr h' S b→j4 b=ρ b:=fun b hb=>QV b (Lc b hb);have xN:∀b,grow (Ov D l h tr h' S i) (aF tr h' i).next (aF tr h' (i+1)).next b→j4 b=sF b:=by
  rintro b (hb|hb)
  ·rw[iC b hb.1,x1.bS b hb]
  ·exact QU b hb.1 hb.2
 have hval:real j4 m.v=real sF m.v:=cR xN _ hv1;have hsub:∀b,grow (Ov D l h tr h' S i) (aF tr h' i).next (aF tr h' (i+1)).next b→DS D l tr h' (dY S i) b:=by
  rintro b (hb|hb)
  ·exact(lV u.lt b).2 (.inl hb.1)
  ·exact(lV u.lt b).2 (.inr hb)
 have hsplit:∀b,DS D l tr h' (dY S i) b→(grow (Ov D l h tr h' S i) (aF tr h' i).next (aF tr h' (i+1)).next b∧b<(aF tr h' (i+1)).next)∨(DS D l tr h' S b∧(aF tr h' (i+1)).next≤b):=by
  intro b hb;rcases(lV u.lt b).1 hb with hb|hb
  ·have:=Lc b hb;by_cases hlt:b<(aF tr h' i).next
   ·exact .inl ⟨.inl (RL R hb hlt),by omega⟩
   ·exact .inr ⟨hb,by omega⟩
  ·exact .inl ⟨.inr hb,hb.2⟩
 have Ln:∀b,b<(aF tr h' (i+1)).next→(cY l tr h' (i+1)).get b=(aF tr h' (i+1)).get b:=fun b hb=>R.H9 hb
 have oN:∀b,(aF tr h' (i+1)).next≤b→(cY l tr h' (i+1)).get b=(cY l tr h' c).get b:=by
  intro b hb;rw[R.H7 j.cut Cw b,R.Xs u.hx he hb]
 have hwu:∀b,b<(aF tr h' (i+1)).next→(cY l tr h' (i+1)).wr b=(aF tr h' (i+1)).wr b:=fun b hb=>Heap.kM (Ln b hb)
 have hkeep:∀b,DS D l tr h' S b→(aF tr h' (i+1)).next≤b→(cY l tr h' c).get b≠none→∀b0,Ov D l h tr h' S i b0→(aF tr h' i).wr b0=true→(ρ b0).cj≠(ρ b).cj:=by
  intro b hb hlt hnn b0 hb0 hw0;have:=rj R hb0;exact j.inv.apart b0 b hb0.1 hb (by omega) (by rw[←Heap.kM (hg b0 this)];exact hw0) hnn
 have jQ:=j.rP u;have hjj:J P H0 D N l bs e h tr h' tY w0 a0 (dY S i) (i+1) j4 (a.put x.dst (real j4 m.v)) w1:=by
  refine⟨hcs.1,jQ,?_,?_,j.BL ?_,j.zg R u iC (dB hsub _ hv1),by rw[←j.defers];exact put_defers⟩
  ·refine⟨?_,fun b hb=>R.Ru hb,i1.low,?_,?_⟩
   ·intro b hb;rcases hsplit b hb with hb|hb
    ·exact Nat.lt_of_lt_of_le hb.2 (R.le_last _)
    ·exact j.inv.lt b hb.1
   ·intro b y hb hy;rcases hsplit b hb with hb|hb
    ·rw[Ln b hb.2] at hy;rw[xN b hb.1];exact cA (i1.cj b y hb.1 hy) hsub xN rfl
    ·rw[oN b hb.2] at hy;rw[iC b hb.1];have FQ:=j.inv.cj b y hb.1 hy;refine cA FQ (fun b hb=>(lV u.lt b).2 (.inl hb)) iC ?_;exact x1.frame _ (iM FQ) (hkeep b hb.1 hb.2 (by rw[hy];simp))
   ·intro b b' hb hb' hne hw hx;rcases hsplit b hb with hb|hb<;>rcases hsplit b' hb' with hb'|hb'
    ·rw[xN b hb.1,xN b' hb'.1];exact i1.apart b b' hb.1 hb'.1 hne (by rw[←hwu b hb.2];exact hw) (by rw[←Ln b' hb'.2];exact hx)
    ·rw[xN b hb.1,iC b' hb'.1];rw[oN b' hb'.2] at hx;rcases hb.1 with hd|hd
     ·rw[x1.bS b hd];have hwb:(aF tr h' (i+1)).wr b=true:=by rw[←hwu b hb.2];exact hw
      have:=(x1.old b (rj R hd) (Heap.fG hwb)).2;exact hkeep b' hb'.1 hb'.2 hx b hd (this hwb)
     ·rcases x1.fresh b hd.1 hd.2 with hf|⟨b0,k1,k2,k3⟩
      ·have:=j.inv.PD hb'.1 hx;omega
      ·rw[←k3];exact hkeep b' hb'.1 hb'.2 hx b0 k1 k2
    ·rw[iC b hb.1,xN b' hb'.1];rw[Heap.kM (oN b hb.2)] at hw;rw[Ln b' hb'.2] at hx;rcases hb'.1 with hd|hd
     ·rw[x1.bS b' hd];have hlt:=rj R hd;have:=(x1.old b' hlt hx).1;rw[hg b' hlt] at this;exact j.inv.apart b b' hb.1 hd.1 hne hw this
     ·rcases x1.fresh b' hd.1 hd.2 with hf|⟨b0,k1,k2,k3⟩
      ·have:=j.inv.Xv b hb.1 hw;omega
      ·rw[←k3];exact(hkeep b hb.1 hb.2 (Heap.fG hw) b0 k1 k2).symm
    ·rw[iC b hb.1,iC b' hb'.1];rw[Heap.kM (oN b hb.2)] at hw;rw[oN b' hb'.2] at hx;exact j.inv.apart b b' hb.1 hb'.1 hne hw hx
  ·have x0:=j.ext;have nL:=R.wU.low i;have Lb:∀b,DS D l tr h' S b→b<h.next→D b:=by
    rintro b (hb|⟨q,_,_,h1,_⟩) hlt
    ·exact hb
    ·have:=R.wU.low q;omega
   have place:∀b,DS D l tr h' S b→(cY l tr h' c).wr b=true→w0.heap.size≤(ρ b).cj∨∃b0,D b0∧h.wr b0=true∧(tY b0).cj=(ρ b).cj:=by
    intro b hb hw;by_cases hlt:b<h.next
    ·have hd:=Lb b hb hlt;have:=(x0.old b hlt (Heap.fG hw)).2;exact .inr ⟨b,hd,this hw,by rw[x0.bS b hd]⟩
    ·exact x0.fresh b (by omega) (j.inv.lt b hb)
   have place':∀b,Ov D l h tr h' S i b→(aF tr h' i).wr b=true→w0.heap.size≤(ρ b).cj∨∃b0,D b0∧h.wr b0=true∧(tY b0).cj=(ρ b).cj:=
    fun b hb hw=>place b hb.1 (by rw[←Heap.kM (hg b (rj R hb))];exact hw)
   refine⟨x0.next,?_,Nat.le_trans x0.size x1.size,?_,?_,?_,?_,x1.tape.trans x0.tape,x1.os.trans x0.os,x1.output.trans x0.output⟩
   ·intro b hb;rw[iC b (.inl hb)];exact x0.bS b hb
   ·intro r hr hf;rw[x1.frame r (Nat.lt_of_lt_of_le hr x0.size),x0.frame r hr hf];intro b hb hw;rcases place' b hb hw with hp|⟨b0,k1,k2,k3⟩
    ·omega
    ·rw[←k3];exact hf b0 k1 k2
   ·intro b hb hd;have hlt:b<(aF tr h' i).next:=by omega
    rw[Ln b (by omega),x1.jq b hlt (fun hin=>hd (Lb b hin.1 hb)),hg b hlt];exact x0.jq b hb hd
   ·intro b hb hn;have hlt:b<(aF tr h' i).next:=by omega
    rw[Ln b (by omega)] at hn;have k1:=x1.old b hlt hn;have k2:=x0.old b hb (by rw[←hg b hlt];exact k1.1);refine⟨k2.1,?_⟩;intro hw;rw[hwu b (by omega)] at hw;exact k2.2 (by rw[←Heap.kM (hg b hlt)];exact k1.2 hw)
   ·intro b ox iH;by_cases hnew:(aF tr h' i).next≤b∧b<(aF tr h' (i+1)).next
    ·rw[QU b hnew.1 hnew.2];rcases x1.fresh b hnew.1 hnew.2 with hf|⟨b0,k1,k2,k3⟩
     ·exact .inl (Nat.le_trans x0.size hf)
     ·rw[←k3];exact place' b0 k1 k2
    ·rw[QV b hnew];exact x0.fresh b ox iH
  ·intro k y q bk hy hq hb hs hki VT;by_cases hlt:(aF tr h' k).next<(aF tr h' i).next
   ·rw[Ln _ (by omega),x1.jq _ hlt (fun hin=>R.HH hy hq hb hs hin.1),hg _ hlt];exact VT
   ·have AA:=R.Ef hy hq hb (i:=k+1) (by omega);have:(aF tr h' (i+1)).next≤(aF tr h' k).next:=by
     rcases Nat.lt_or_ge k i with hlt'|hge
     ·have:=R.Ef hy hq hb hlt';omega
     ·exact R.wU.mono (i+1) k (by omega)
    rw[oN _ this];exact VT
 have:=hk j4 w1 hjj;rw[hval] at this;rw[←nJ];exact this
end
end Ads
end Go.Proofs.Ytepdklcpagielaa
