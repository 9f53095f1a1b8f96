/-
  Regions that draw their order: what a trace in the text's order says of places and stores.
  Regions that draw their order: a run in the text's order exists, and what it shows of numbers.
  Regions that draw their order: the heap that all orders work on; what holds when some operations are done.
  Regions that draw their order: one operation more is done; those that change no heap.
  Regions that draw their order: an effect is done.
  Regions that draw their order: an effect is done, in any order.
-/
import Derived.Test.YtecdcefacdodgaaAdsSem
set_option linter.unusedSimpArgs false
set_option linter.unusedVariables false
namespace Go.Proofs.Ytecdcefacdodgaa
namespace Ads
def aj(tr:List aG)(h':Heap)(i:Nat):Heap:=dA (tr.drop i) h'
def cD:List bh→List aG→Nat→Env→Env
 |x::l,m::tr,i+1,e=>cD l tr i (e.put x.dst m.v)
 |_,_,_,e=>e
def eL:(Nat→Bool)→List bh→List aG→Env→Env
 |S,x::l,m::tr,e=>eL (fun j=>S (j+1)) l tr (cond (S 0) (e.put x.dst m.v) e)
 |_,_,_,e=>e
section
variable {P:Program} {H0:Nat}
theorem OT.length:∀{l:List bh} {e:Env} {h:Heap} {tr:List aG} {e':Env} {h':Heap},OT P H0 l e h tr e' h'→tr.length=l.length
 |[],_,_,tr,_,_,ho=>by cases tr<;>simp_all[OT]
 |x::l,_,_,tr,_,_,ho=>by
  cases tr with
  |nil=>simp[OT] at ho
  |cons m tr=>
   simp only[OT] at ho;rcases ho.2.2 with⟨_,_,_,hr⟩|⟨_,_,h1,_,hr⟩<;>simp[hr.length]
theorem OT.zero{l:List bh}{e:Env}{h:Heap}{tr:List aG}{e':Env}{h':Heap}(ho:OT P H0 l e h tr e' h'):aj tr h' 0=h:=by
 cases l with
 |nil=>cases tr<;>simp_all[OT,aj,dA]
 |cons x l=>cases tr with
  |nil=>simp[OT] at ho
  |cons m tr=>simp only[OT] at ho;simp[aj,dA,ho.1]
theorem OT.at:∀{l:List bh} {e:Env} {h:Heap} {tr:List aG} {e':Env} {h':Heap},OT P H0 l e h tr e' h'→∀{i:Nat} {x:bh},l[i]?=some x→
  ∃m,tr[i]?=some m∧m.h=aj tr h' i∧m.vals=x.args.map (cD l tr i e).ev∧
   ((m.on=false∧bF x (cD l tr i e)=false∧m.v=.undef∧aj tr h' (i+1)=aj tr h' i)∨
    (m.on=true∧bF x (cD l tr i e)=true∧uL P H0 x.op m.vals (aj tr h' i) m.v (aj tr h' (i+1))))
 |[],_,_,_,_,_,_,i,x,hx=>by simp at hx
 |y::l,e,h,tr,e',h',ho,i,x,hx=>by
  cases tr with
  |nil=>simp[OT] at ho
  |cons m tr=>
   simp only[OT] at ho;cases i with
   |zero=>
    simp at hx;subst hx;refine⟨m,rfl,rfl,by simpa[cD] using ho.2.1,?_⟩;rcases ho.2.2 with⟨h1,h2,h3,hr⟩|⟨h1,h2,h4,h3,hr⟩
    ·refine .inl ⟨h1,by simpa[cD] using h2,h3,?_⟩;show aj tr h' 0=m.h;rw[hr.zero,ho.1]
    ·refine .inr ⟨h1,by simpa[cD] using h2,?_⟩;show uL P H0 y.op m.vals m.h m.v (aj tr h' 0);rw[hr.zero,ho.1];exact h3
   |succ i=>
    simp at hx;rcases ho.2.2 with⟨h1,h2,h3,hr⟩|⟨h1,h2,h4,h3,hr⟩
    ·rw[←h3] at hr;obtain⟨m',g1,g2,g3,g4⟩:=hr.at hx;exact⟨m',by simpa using g1,by simpa[aj] using g2,by simpa[cD] using g3,by simpa[cD,aj] using g4⟩
    ·obtain⟨m',g1,g2,g3,g4⟩:=hr.at hx;exact⟨m',by simpa using g1,by simpa[aj] using g2,by simpa[cD] using g3,by simpa[cD,aj] using g4⟩
theorem OT.last{l:List bh}{e:Env}{h:Heap}{tr:List aG}{e':Env}{h':Heap}(ho:OT P H0 l e h tr e' h'){i:Nat}(hi:l.length≤i):aj tr h' i=h':=by
 unfold aj;rw[List.drop_eq_nil_of_le (by rw[ho.length];exact hi)];rfl
theorem OT.take:∀{l:List bh} {e:Env} {h:Heap} {tr:List aG} {e':Env} {h':Heap},OT P H0 l e h tr e' h'→∀i:Nat,
  OT P H0 (l.take i) e h (tr.take i) (cD l tr i e) (aj tr h' i)
 |[],e,h,tr,e',h',ho,i=>by
  cases tr with
  |cons _ _=>simp[OT] at ho
  |nil=>simp only[OT] at ho;obtain⟨rfl,rfl⟩:=ho;cases i<;>simp[OT,cD,aj,dA]
 |y::l,e,h,tr,e',h',ho,i=>by
  cases tr with
  |nil=>simp[OT] at ho
  |cons m tr=>
   cases i with
   |zero=>
    have:=ho.zero;simp[OT,cD,this]
   |succ i=>
    simp only[OT] at ho;simp only[List.take_succ_cons,OT,cD];refine⟨ho.1,ho.2.1,?_⟩;rcases ho.2.2 with⟨h1,h2,h3,hr⟩|⟨h1,h2,h4,h3,hr⟩
    ·refine .inl ⟨h1,h2,h3,?_⟩;have:=hr.take i;rw[h3];simpa[aj] using this
    ·refine .inr ⟨h1,h2,h4,h3,?_⟩;have:=hr.take i;simpa[aj] using this
theorem tf:∀{l:List bh} {e:Env} {h:Heap} {tr:List aG} {e':Env} {h':Heap},OT P H0 l e h tr e' h'→cD l tr l.length e=e'
 |[],e,h,tr,e',h',ho=>by cases tr<;>simp_all[OT,cD]
 |y::l,e,h,tr,e',h',ho=>by
  cases tr with
  |nil=>simp[OT] at ho
  |cons m tr=>
   simp only[OT] at ho;simp only[List.length_cons,cD];rcases ho.2.2 with⟨h1,h2,h3,hr⟩|⟨h1,h2,h4,h3,hr⟩
   ·rw[h3];exact tf hr
   ·exact tf hr
theorem fy{e:Env}{d:Option Nat}{v:AV}{t:Nat}(h:d≠some t):(e.put d v).get t=e.get t:=by rw[dV,if_neg h]
theorem mV:∀(l:List bh) (tr:List aG) (S:Nat→Bool) (i:Nat) (d:Nat) (e1 e2:Env),e1.get d=e2.get d→tr.length=l.length→
  (∀j x,l[j]?=some x→x.dst=some d→S j=decide (j<i))→(eL S l tr e1).get d=(cD l tr i e2).get d
 |[],tr,S,i,d,e1,e2,he,hl,hs=>by cases tr<;>simp_all[eL,cD]
 |x::l,[],S,i,d,e1,e2,he,hl,hs=>by simp at hl
 |x::l,m::tr,S,i,d,e1,e2,he,hl,hs=>by
  simp only[eL];cases i with
  |zero=>
   have h0:(cond (S 0) (e1.put x.dst m.v) e1).get d=e2.get d:=by
    by_cases hx:x.dst=some d
    ·have:=hs 0 x rfl hx;simp at this;rw[this];exact he
    ·cases S 0
     ·exact he
     ·simp only[cond_true];rw[fy hx];exact he
   have:=mV l tr (fun j=>S (j+1)) 0 d _ e2 h0 (by simpa using hl) (fun j y hy hd=>by
    have:=hs (j+1) y (by simpa using hy) hd;simpa using this)
   rw[this];cases l<;>cases tr<;>simp[cD]
  |succ i=>
   simp only[cD];refine mV l tr (fun j=>S (j+1)) i d _ _ ?_ (by simpa using hl) (fun j y hy hd=>by
    have:=hs (j+1) y (by simpa using hy) hd;simpa using this)
   by_cases hx:x.dst=some d
   ·have:=hs 0 x rfl hx;simp at this;rw[this];simp only[cond_true];rw[dV,dV,if_pos hx,if_pos hx]
   ·rw[fy hx];cases S 0
    ·exact he
    ·simp only[cond_true];rw[fy hx];exact he
theorem ug:∀(l:List bh) (tr:List aG) (S S':Nat→Bool) (d:Nat) (e1 e2:Env),e1.get d=e2.get d→tr.length=l.length→
  (∀j x,l[j]?=some x→x.dst=some d→S j=S' j)→(eL S l tr e1).get d=(eL S' l tr e2).get d
 |[],tr,S,S',d,e1,e2,he,hl,hs=>by cases tr<;>simp_all[eL]
 |x::l,[],S,S',d,e1,e2,he,hl,hs=>by simp at hl
 |x::l,m::tr,S,S',d,e1,e2,he,hl,hs=>by
  simp only[eL];refine ug l tr _ _ d _ _ ?_ (by simpa using hl) (fun j y hy hd=>hs (j+1) y (by simpa using hy) hd);by_cases hx:x.dst=some d
  ·rw[hs 0 x rfl hx];cases S' 0
   ·exact he
   ·simp only[cond_true];rw[dV,dV,if_pos hx,if_pos hx]
  ·cases S 0<;>cases S' 0<;>simp only[cond_true,cond_false,fy hx]<;>exact he
theorem yu:∀(l:List bh) (tr:List aG) (S S':Nat→Bool) (i:Nat) (x:bh) (m:aG) (e:Env) (d:Nat),tr.length=l.length→l[i]?=some x→tr[i]?=some m→
  (∀j,S' j=(S j||decide (j=i)))→S i=false→(∀j y,i<j→l[j]?=some y→x.dst=some d→y.dst=some d→S j=false)→
  (eL S' l tr e).get d=((eL S l tr e).put x.dst m.v).get d
 |[],tr,S,S',i,x,m,e,d,hl,hx,hm,hs,hsi,yH=>by simp at hx
 |y::l,[],S,S',i,x,m,e,d,hl,hx,hm,hs,hsi,yH=>by simp at hl
 |y::l,n::tr,S,S',i,x,m,e,d,hl,hx,hm,hs,hsi,yH=>by
  simp only[eL];cases i with
  |zero=>
   simp at hx hm;subst hx;subst hm;rw[hs 0,hsi];simp only[decide_true,Bool.or_true,cond_true,cond_false];by_cases hd:y.dst=some d
   ·rw[dV,if_pos hd];have:(eL (fun j=>S' (j+1)) l tr (e.put y.dst n.v)).get d=(cD l tr 0 (e.put y.dst n.v)).get d:=by
     refine mV l tr _ 0 d _ _ rfl (by simpa using hl) (fun j z hz Ty=>?_);rw[hs (j+1),yH (j+1) z (by omega) (by simpa using hz) hd Ty];simp
    rw[this];have:cD l tr 0 (e.put y.dst n.v)=e.put y.dst n.v:=by cases l<;>cases tr<;>simp[cD]
    rw[this,dV,if_pos hd]
   ·rw[fy hd];refine ug l tr _ _ d _ _ (fy hd) (by simpa using hl) (fun j z hz Ty=>?_);rw[hs (j+1)];simp
  |succ i=>
   simp at hx hm;have h0:S' 0=S 0:=by rw[hs 0];simp
   rw[h0];refine yu l tr _ _ i x m _ d (by simpa using hl) hx hm (fun j=>?_) hsi (fun j z hj hz Tx Ty=>yH (j+1) z (by omega) (by simpa using hz) Tx Ty);rw[hs (j+1)];simp
def uAt(l:List bh)(tr:List aG)(h':Heap)(c:Nat):Heap:=cg l tr h' c
theorem rz:∀(l:List bh) (tr:List aG) (t t':Tr ck) (b:Nat),t.get b=t'.get b→(eW l tr t).get b=(eW l tr t').get b
 |[],tr,t,t',b,h=>by cases tr<;>simpa[eW] using h
 |x::l,[],t,t',b,h=>by simpa[eW] using h
 |x::l,m::tr,t,t',b,h=>by
  simp only[eW];split
  ·refine rz l tr _ _ b ?_;rw[Tr.bl,Tr.bl,h]
  ·exact rz l tr _ _ b h
theorem uZ:∀(l:List bh) (tr:List aG) (t:Tr ck) (b:Nat),(∀(j:Nat) (x:bh) (m:aG),l[j]?=some x→tr[j]?=some m→dm x m≠none→m.h.next≠b)→
  (eW l tr t).get b=t.get b
 |[],tr,t,b,h=>by cases tr<;>simp[eW]
 |x::l,[],t,b,h=>by simp[eW]
 |x::l,m::tr,t,b,h=>by
  have ht:=fun t=>uZ l tr t b (fun j y n hy hn=>h (j+1) y n (by simpa using hy) (by simpa using hn));simp only[eW];split
  ·rename_i bk hb;rw[ht,Tr.bl,if_neg];intro e;exact h 0 x m rfl rfl (by rw[hb];simp) e.symm
  ·exact ht t
end
end Ads
end Go.Proofs.Ytecdcefacdodgaa
set_option linter.unusedSimpArgs false
set_option linter.unusedVariables false
namespace Go.Proofs.Ytecdcefacdodgaa
namespace Ads
section
variable {P:Program} {H0:Nat} {ro:Option Nat} {n:Nat}
theorem zo(ro:Option Nat)(n:Nat):(FW ro).room n:=fun _ h=>by simp[FW,Fence.wide] at h
theorem CA{o:Oper}{a:Act}{w:World}{next:Act→World→Prop}{Q:Exit→Act→World→Prop}(h:o.wpIn (FW ro) n P a w next Q):
  (∃a' w',next a' w')∨∃ex a' w',Q ex a' w':=by
 have h:=h.2;generalize(o.semAt (FW ro).round a.eval).run P w=r at h;cases r with
 |ok x w'=>
  cases x<;>simp only[Oper.uponIn] at h
  case value v=>exact .inl ⟨_,_,h⟩
  case skip=>exact .inl ⟨_,_,h⟩
  case defer d=>exact .inl ⟨_,_,h⟩
  case enter f args=>
   obtain⟨e,w'',fr,hr,_⟩:=h.2.2 [] (zo _ _);cases e with
   |returned v=>exact .inl ⟨_,_,hr⟩
   |panicked c=>exact .inr ⟨_,_,_,hr⟩
   |outgrown=>obtain⟨a1,w1,hq⟩:=hr;exact .inr ⟨_,_,_,hq⟩
  case row row args=>
   obtain⟨v,w'',hr,_⟩:=h.2 (Frame.ofRow P row args .normal) [] (zo _ _);exact .inl ⟨_,_,hr⟩
  case round l f tmps as bd=>
   obtain⟨e,w'',hr,_⟩:=h.2.2 (Frame.ofRow P "" #[] .normal) [] (zo _ _);cases e with
   |returned v=>exact .inl ⟨_,_,hr⟩
   |panicked c=>exact .inr ⟨_,_,_,hr⟩
   |outgrown=>obtain⟨a1,w1,hq⟩:=hr;exact .inr ⟨_,_,_,hq⟩
  all_goals (first|exact h.elim|skip)
 |halt x w'=>
  cases x<;>simp only[Oper.uponIn] at h
  case panic v=>exact .inr ⟨_,_,_,h⟩
  all_goals (first|exact h.elim|skip)
theorem kg{ops:Array Oper}{Q:Exit→Act→World→Prop}:∀{os:List Oper} {a:Act} {w:World},wpListIn (FW ro) n P ops Q os a w→∃ex a' w',Q ex a' w'
 |[],a,w,h=>⟨_,_,_,h⟩
 |o::os,a,w,h=>by
  unfold wpListIn at h;split at h
  ·rcases CA h with⟨a',w',h'⟩|h'
   ·exact kg h'
   ·exact h'
  ·exact kg h.2
theorem wm{N:Nat}:∀{l:List bh} (i:Nat),cP N l=true→cP N (l.take i)=true
 |[],i,h=>by simp[cP]
 |x::l,0,h=>by simp[cP]
 |x::l,i+1,h=>by
  simp only[cP,List.take_succ_cons,Bool.and_eq_true] at h⊢;exact⟨h.1,wm i h.2⟩
theorem wk{N:Nat}:∀{l:List bh} (i:Nat),cP N l=true→cP N (l.drop i)=true
 |[],i,h=>by simp[cP]
 |x::l,0,h=>by simpa using h
 |x::l,i+1,h=>by
  simp only[cP,Bool.and_eq_true] at h;simpa using wk i h.2
theorem tO{N:Nat}:∀{l:List bh} {i:Nat} {x:bh},cP N l=true→l[i]?=some x→vA N x.dst=true
 |[],i,x,h,hx=>by simp at hx
 |y::l,0,x,h,hx=>by simp only[cP,Bool.and_eq_true] at h;simp at hx;subst hx;exact h.1
 |y::l,i+1,x,h,hx=>by simp only[cP,Bool.and_eq_true] at h;simp at hx;exact tO h.2 hx
theorem OT.sR{l:List bh}{e:Env}{h:Heap}{tr:List aG}{e':Env}{h':Heap}(ho:OT P H0 l e h tr e' h'){ops:Array Oper}{os:List Oper}
  (hos:os.map (bw P ops)=l){N:Nat}(hok:cP N l=true){ρ:cn}{D:Dom}{w:World}{a:Act}(hi:Inv P H0 ρ D h w)(he:bz ρ D N e a)(i:Nat):
  ∃ρ' w' a',Inv P H0 ρ' (grow D h.next (aj tr h' i).next) (aj tr h' i) w'∧bz ρ' (grow D h.next (aj tr h' i).next) N (cD l tr i e) a'∧h.next≤(aj tr h' i).next:=by
 have:=nO (ro:=none) (n:=0) (ho.take i) (ops:=ops) (os:=os.take i) (by rw[List.map_take,hos]) (wm i hok) hi he
  (Q:=fun _ a' w'=>∃ρ',Inv P H0 ρ' (grow D h.next (aj tr h' i).next) (aj tr h' i) w'∧bz ρ' (grow D h.next (aj tr h' i).next) N (cD l tr i e) a'∧h.next≤(aj tr h' i).next)
  (fun ρ' w' a' g1 g2 g3 g4=>⟨ρ',g1,g3,g2.next⟩)
 obtain⟨_,a',w',ρ',g⟩:=kg this;exact⟨ρ',w',a',g⟩
theorem OT.drop:∀{l:List bh} {e:Env} {h:Heap} {tr:List aG} {e':Env} {h':Heap},OT P H0 l e h tr e' h'→∀i:Nat,
  OT P H0 (l.drop i) (cD l tr i e) (aj tr h' i) (tr.drop i) e' h'
 |[],e,h,tr,e',h',ho,i=>by
  cases tr with
  |cons _ _=>simp[OT] at ho
  |nil=>simp only[OT] at ho;obtain⟨rfl,rfl⟩:=ho;cases i<;>simp[OT,cD,aj,dA]
 |y::l,e,h,tr,e',h',ho,i=>by
  cases tr with
  |nil=>simp[OT] at ho
  |cons m tr=>
   cases i with
   |zero=>
    have:=ho.zero;simpa[cD,this] using ho
   |succ i=>
    simp only[OT] at ho;simp only[List.drop_succ_cons,cD];rcases ho.2.2 with⟨h1,h2,h3,hr⟩|⟨h1,h2,h4,h3,hr⟩
    ·have:=hr.drop i;rw[h3];exact this
    ·exact hr.drop i
theorem BB(tr:List aG)(h':Heap)(i j:Nat):aj (tr.drop i) h' j=aj tr h' (i+j):=by
 unfold aj;rw[List.drop_drop]
structure WW(P:Program)(H0:Nat)(D:Dom)(N:Nat)(l:List bh)(e:Env)(h:Heap)(tr:List aG)(h':Heap):Prop where
 mono:∀i j,i≤j→(aj tr h' i).next≤(aj tr h' j).next
 low:∀i,h.next≤(aj tr h' i).next
 top:∀i b,(aj tr h' i).next≤b→(aj tr h' i).get b=none
 run:∀i,∃ρ' w' a',Inv P H0 ρ' (grow D h.next (aj tr h' i).next) (aj tr h' i) w'∧bz ρ' (grow D h.next (aj tr h' i).next) N (cD l tr i e) a'
theorem OT.tT{l:List bh}{e:Env}{h:Heap}{tr:List aG}{e':Env}{h':Heap}(ho:OT P H0 l e h tr e' h'){ops:Array Oper}{os:List Oper}
  (hos:os.map (bw P ops)=l){N:Nat}(hok:cP N l=true){ρ:cn}{D:Dom}{w:World}{a:Act}(hi:Inv P H0 ρ D h w)(he:bz ρ D N e a):
  WW P H0 D N l e h tr h' where
 mono:=fun i j hij=>by
  obtain⟨ρ',w',a',g1,g2,g3⟩:=ho.sR hos hok hi he i;obtain⟨_,_,_,_,_,g⟩:=(ho.drop i).sR (os:=os.drop i) (by rw[List.map_drop,hos]) (wk i hok) g1 g2 (j-i);rw[BB] at g;have:i+(j-i)=j:=by omega
  rw[this] at g;exact g
 low:=fun i=>by
  obtain⟨_,_,_,_,_,g⟩:=ho.sR hos hok hi he i;exact g
 top:=fun i=>by
  obtain⟨_,_,_,g,_,_⟩:=ho.sR hos hok hi he i;exact g.top
 run:=fun i=>by
  obtain⟨ρ',w',a',g1,g2,_⟩:=ho.sR hos hok hi he i;exact⟨ρ',w',a',g1,g2⟩
end
mutual
theorem jv{D D':Dom}:∀{v:AV},v.aP D→v.aP D'→v.aP fun b=>D b∧D' b
 |.bool _,_,_|.int _ _,_,_|.str _,_,_|.iR,_,_|.aq,_,_|.fe _,_,_|.ji,_,_|.iP,_,_|.iQ,_,_=>by simp[AV.aP]
 |.ptr b o,h,h'=>by simp only[AV.aP] at*;exact⟨h,h'⟩
 |.sl b o l c op,h,h'=>by simp only[AV.aP] at*;exact⟨h,h'⟩
 |.rest b o k,h,h'=>by simp only[AV.aP] at*;exact⟨h,h'⟩
 |.map b,h,h'=>by simp only[AV.aP] at*;exact⟨h,h'⟩
 |.yield b,h,h'=>by simp only[AV.aP] at*;exact⟨h,h'⟩
 |.func fn first aF,h,h'=>by
  simp only[AV.aP] at*;exact⟨h.1,k7 h.2.1 h'.2.1,k7 h.2.2 h'.2.2⟩
 |.iface t v,h,h'=>by
  simp only[AV.aP] at*;exact jv h h'
 |.agg cs,h,h'=>by
  simp only[AV.aP] at*;exact k7 h h'
 |.cC cs,h,h'=>by
  simp only[AV.aP] at*;exact k7 h h'
 |.fz _ _,h,h'=>by simp only[AV.aP] at h
 |.fp _ _,h,h'=>by simp only[AV.aP] at h
theorem k7{D D':Dom}:∀{l:List AV},aW D l→aW D' l→aW (fun b=>D b∧D' b) l
 |[],_,_=>by simp[aW]
 |v::vs,h,h'=>by
  simp only[aW] at*;exact⟨jv h.1 h'.1,k7 h.2 h'.2⟩
end
theorem xB{P:Program}{H0:Nat}{ρ ρ':cn}{D D':Dom}{L L':Loc}{x:ck}{w w':World}(h:dU P H0 ρ D L x w)(h':dU P H0 ρ' D' L' x w'):
  dU P H0 ρ (fun b=>D b∧D' b) L x w:=by
 cases x with
 |cells vs wr es=>
  obtain⟨c,t,fr,hc,h1,h2⟩:=h;obtain⟨c',t',fr',ju,Nl,CF⟩:=h';exact⟨c,t,fr,hc,fun i v hv=>⟨(h1 i v hv).1,jv (h1 i v hv).2 (Nl i v hv).2⟩,h2⟩
 |map es bs c=>
  obtain⟨ms,k,hc,h0,h1,h2,h3⟩:=h;obtain⟨ms',k',ju,h0',Nl,CF,_⟩:=h';exact⟨ms,k,hc,h0,h1,fun p hp=>⟨jv (h2 p hp).1 (CF p hp).1,jv (h2 p hp).2 (CF p hp).2⟩,h3⟩
 |iter m since seen last=>
  obtain⟨h0,hm,ho,sn,hc,hs⟩:=h;exact⟨h0,⟨hm,h'.2.1⟩,ho,sn,hc,hs⟩
 |loop st bD e ps a b=>
  obtain⟨h0,l,hl,g1,g2,g3,g4,g5⟩:=h;obtain⟨h0',l',hl',g1',Ql,g3',g4',g5'⟩:=h';exact⟨h0,l,hl,g1,g2,g3,fun i=>jv (g4 i) (g4' i),g5⟩
 |defers=>exact h
end Ads
end Go.Proofs.Ytecdcefacdodgaa
set_option linter.unusedSimpArgs false
set_option linter.unusedVariables false
namespace Go.Proofs.Ytecdcefacdodgaa
namespace Ads
def ow(bs:List Nat)(j i:Nat):Prop:=(bs.getD j 0).testBit i=true
structure Rg(P:Program)(H0:Nat)(D:Dom)(N:Nat)(l:List bh)(bs:List Nat)(e:Env)(h:Heap)(tr:List aG)(e':Env)(h':Heap):Prop where
 ot:OT P H0 l e h tr e' h'
 tT:WW P H0 D N l e h tr h'
 LI:∀b,D b→b<h.next
 pairs:∀(i j:Nat) (x y:bh),i<j→l[i]?=some x→l[j]?=some y→ow bs j i∨(¬(bH x.op=true∧bH y.op=true)∧nB x y=true)
 ok:cP N l=true
section
variable {P:Program} {H0:Nat} {D:Dom} {N:Nat} {l:List bh} {bs:List Nat} {e:Env} {h:Heap} {tr:List aG} {e':Env} {h':Heap}
theorem Rg.le_last(R:Rg P H0 D N l bs e h tr e' h')(c:Nat):(aj tr h' c).next≤h'.next:=by
 by_cases hc:c≤l.length
 ·have:=R.tT.mono c l.length hc
  rwa [R.ot.last (Nat.le_refl _)] at this
 ·rw[R.ot.last (by omega)];exact Nat.le_refl _
theorem Rg.made(R:Rg P H0 D N l bs e h tr e' h'){j:Nat}{x:bh}{m:aG}{b:ck}(hx:l[j]?=some x)(hm:tr[j]?=some m)(hb:dm x m=some b):
  (∃o f,x.op=.a o∧m.on=true∧aI o m.vals=some (b,f)∧m.v=f (aj tr h' j).next)∧aj tr h' (j+1)=(aj tr h' j).new b∧m.h=aj tr h' j:=by
 obtain⟨m',g1,g2,g3,g4⟩:=R.ot.at hx;rw[hm] at g1;cases g1
 unfold dm at hb;split at hb
 ·rename_i o ho dI;simp only[Option.map_eq_some_iff] at hb;obtain⟨⟨b',f⟩,hb,rfl⟩:=hb;rcases g4 with g4|⟨k1,k2,k3⟩
  ·rw[g4.1] at dI;simp at dI
  ·rw[ho] at k3;obtain⟨x',f',q1,q2,q3⟩:=k3;rw[hb] at q1;cases q1
   exact⟨⟨o,f,ho,dI,hb,q2⟩,q3,g2⟩
 ·simp at hb
theorem Rg.still(R:Rg P H0 D N l bs e h tr e' h'){j:Nat}{x:bh}{m:aG}(hx:l[j]?=some x)(hm:tr[j]?=some m)(hb:dm x m=none)(he:bH x.op=false):
  aj tr h' (j+1)=aj tr h' j:=by
 obtain⟨m',g1,g2,g3,g4⟩:=R.ot.at hx;rw[hm] at g1;cases g1
 rcases g4 with g4|⟨k1,k2,k3⟩
 ·exact g4.2.2.2
 ·cases ho:x.op with
  |p o=>rw[ho] at k3;exact k3.2
  |r o=>rw[ho] at k3;exact k3.2
  |a o=>
   rw[ho] at k3;obtain⟨x',f',q1,q2,q3⟩:=k3;unfold dm at hb;rw[ho,k1] at hb;simp[q1] at hb
  |bad=>rw[ho] at k3;exact k3.elim
  |e o=>rw[ho] at he;simp[bH] at he
  |call=>rw[ho] at he;simp[bH] at he
  |invoke s=>rw[ho] at he;simp[bH] at he
  |panic=>rw[ho] at he;simp[bH] at he
theorem Rg.Fp(R:Rg P H0 D N l bs e h tr e' h'){j:Nat}{x:bh}(hx:l[j]?=some x):∃m,tr[j]?=some m:=by
 obtain⟨m,g,_⟩:=R.ot.at hx;exact⟨m,g⟩
theorem Rg.BQ(R:Rg P H0 D N l bs e h tr e' h'){j i:Nat}{x:bh}{m:aG}{b:ck}(hx:l[j]?=some x)(hm:tr[j]?=some m)(hb:dm x m=some b)(hji:j<i):
  (aj tr h' j).next<(aj tr h' i).next:=by
 have h1:=R.made hx hm hb;have h2:=R.tT.mono (j+1) i (by omega);rw[h1.2.1] at h2;simp at h2;omega
theorem Rg.Ft(R:Rg P H0 D N l bs e h tr e' h'){c b:Nat}(hb:b<(aj tr h' c).next):(cg l tr h' c).get b=(aj tr h' c).get b:=by
 refine uZ _ _ _ b ?_;intro j x m hx hm hne;rw[List.getElem?_drop] at hx hm;obtain⟨bk,Dq⟩:=Option.ne_none_iff_exists'.1 hne;rw[(R.made hx hm Dq).2.2];have:=R.tT.mono c (c+j) (by omega);omega
theorem B5:∀(l:List bh) (tr:List aG) (t:Tr ck) (j:Nat) (x:bh) (m:aG) (b:ck),l[j]?=some x→tr[j]?=some m→dm x m=some b→
  (∀(i:Nat) (y:bh) (n:aG),j<i→l[i]?=some y→tr[i]?=some n→dm y n≠none→n.h.next≠m.h.next)→(eW l tr t).get m.h.next=some b
 |[],tr,t,j,x,m,b,hx,hm,hb,hi=>by simp at hx
 |y::l,[],t,j,x,m,b,hx,hm,hb,hi=>by simp at hm
 |y::l,n::tr,t,0,x,m,b,hx,hm,hb,hi=>by
  simp at hx hm;subst hx;subst hm;simp only[eW,hb];rw[uZ,Tr.bl,if_pos rfl];intro i z k hz hk hne;exact hi (i+1) z k (by omega) (by simpa using hz) (by simpa using hk) hne
 |y::l,n::tr,t,j+1,x,m,b,hx,hm,hb,hi=>by
  have:=fun t=>B5 l tr t j x m b (by simpa using hx) (by simpa using hm) hb (fun i z k hlt hz hk=>hi (i+1) z k (by omega) (by simpa using hz) (by simpa using hk));simp only[eW];split
  ·exact this _
  ·exact this _
theorem Rg.P3(R:Rg P H0 D N l bs e h tr e' h'){c j:Nat}{x:bh}{m:aG}{b:ck}(hx:l[j]?=some x)(hm:tr[j]?=some m)(hb:dm x m=some b)(hc:c≤j):
  (cg l tr h' c).get (aj tr h' j).next=some b:=by
 have BH:=(R.made hx hm hb).2.2;have:=B5 (l.drop c) (tr.drop c) (dA (tr.drop c) h').m (j-c) x m b (by rw[List.getElem?_drop];rw[show c+(j-c)=j by omega];exact hx)
  (by rw[List.getElem?_drop];rw[show c+(j-c)=j by omega];exact hm) hb (fun i y n hlt hy hn hne=>by
   rw[List.getElem?_drop] at hy hn;obtain⟨bk,Dq⟩:=Option.ne_none_iff_exists'.1 hne;rw[(R.made hy hn Dq).2.2,BH];have:=R.BQ hx hm hb (i:=c+i) (by omega);omega)
 rw[BH] at this;exact this
theorem Rg.NQ(R:Rg P H0 D N l bs e h tr e' h'){c b:Nat}(hb:h'.next≤b):(cg l tr h' c).get b=none:=by
 have:(cg l tr h' c).get b=(aj tr h' c).get b:=by
  refine uZ _ _ _ b ?_;intro j x m hx hm hne;rw[List.getElem?_drop] at hx hm;obtain⟨bk,Dq⟩:=Option.ne_none_iff_exists'.1 hne;rw[(R.made hx hm Dq).2.2];have h1:=R.BQ hx hm Dq (i:=c+j+1) (by omega);have h2:=R.le_last (c+j+1);omega
 rw[this];exact R.tT.top c b (Nat.le_trans (R.le_last c) hb)
theorem drop_cons{α:Type}{l:List α}{i:Nat}{x:α}(h:l[i]?=some x):l.drop i=x::l.drop (i+1):=by
 obtain⟨hlt,rfl⟩:=List.getElem?_eq_some_iff.1 h;exact List.drop_eq_getElem_cons hlt
theorem Rg.P4(R:Rg P H0 D N l bs e h tr e' h'){i:Nat}{x:bh}(hx:l[i]?=some x)(he:bH x.op=false)(b:Nat):
  (cg l tr h' i).get b=(cg l tr h' (i+1)).get b:=by
 obtain⟨m,hm⟩:=R.Fp hx;show(eW (l.drop i) (tr.drop i) (aj tr h' i).m).get b=(eW (l.drop (i+1)) (tr.drop (i+1)) (aj tr h' (i+1)).m).get b;rw[drop_cons hx,drop_cons hm];simp only[eW];cases hb:dm x m with
 |none=>simp only[];rw[R.still hx hm hb he]
 |some bk=>
  simp only[];have:=R.made hx hm hb;rw[this.2.1,this.2.2];rfl
theorem Rg.tU(R:Rg P H0 D N l bs e h tr e' h'){c:Nat}(b:Nat):∀(k:Nat),(∀j x,c≤j→j<c+k→l[j]?=some x→bH x.op=false)→(cg l tr h' c).get b=(cg l tr h' (c+k)).get b
 |0,_=>rfl
 |k+1,hn=>by
  rw[R.tU b k (fun j x h1 h2=>hn j x h1 (by omega))];cases hx:l[c+k]? with
  |some x=>exact R.P4 hx (hn (c+k) x (by omega) (by omega) hx) b
  |none=>
   have hlen:l.length≤c+k:=List.getElem?_eq_none_iff.1 hx;show(eW (l.drop (c+k)) (tr.drop (c+k)) (aj tr h' (c+k)).m).get b=(eW (l.drop (c+k+1)) (tr.drop (c+k+1)) (aj tr h' (c+k+1)).m).get b;have e1:l.drop (c+k)=[]:=List.drop_eq_nil_of_le hlen;have e2:l.drop (c+k+1)=[]:=List.drop_eq_nil_of_le (by omega);rw[R.ot.last hlen,R.ot.last (i:=c+k+1) (by omega),e1,e2];simp[eW]
theorem Rg.SV(R:Rg P H0 D N l bs e h tr e' h'){i:Nat}{x:bh}(hx:l[i]?=some x)(he:bH x.op=true){b:Nat}(hb:(aj tr h' (i+1)).next≤b):
  (cg l tr h' i).get b=(cg l tr h' (i+1)).get b:=by
 obtain⟨m,hm⟩:=R.Fp hx;show(eW (l.drop i) (tr.drop i) (aj tr h' i).m).get b=(eW (l.drop (i+1)) (tr.drop (i+1)) (aj tr h' (i+1)).m).get b;rw[drop_cons hx,drop_cons hm];have hn:dm x m=none:=by
  unfold dm;split
  ·rename_i o ho dI;rw[ho] at he;simp[bH] at he
  ·rfl
 simp only[eW,hn];refine rz _ _ _ _ b ?_;have h1:=R.tT.top (i+1) b hb;have h2:=R.tT.top i b (Nat.le_trans (R.tT.mono i (i+1) (by omega)) hb);unfold Heap.get at h1 h2;rw[h1,h2]
def Cut(l:List bh)(S:Nat→Bool)(c:Nat):Prop:=∀j x,l[j]?=some x→bH x.op=true→(S j=true↔j<c)
theorem Rg.Fs(R:Rg P H0 D N l bs e h tr e' h'){S:Nat→Bool}{c c':Nat}(h1:Cut l S c)(h2:Cut l S c')(b:Nat):(cg l tr h' c).get b=(cg l tr h' c').get b:=by
 have key:∀c c',c≤c'→Cut l S c→Cut l S c'→(cg l tr h' c).get b=(cg l tr h' c').get b:=by
  intro c c' hle g1 g2;have:=R.tU (c:=c) b (c'-c) (fun j x Iy hj2 hx=>by
   cases hx':bH x.op with
   |false=>rfl
   |true=>
    have a1:=g1 j x hx hx';have a2:=g2 j x hx hx';have:=a1.1 (a2.2 (by omega));omega)
  rwa [show c+(c'-c)=c' by omega] at this
 by_cases hle:c≤c'
 ·exact key c c' hle h1 h2
 ·exact(key c' c (by omega) h2 h1).symm
def DS(D:Dom)(l:List bh)(tr:List aG)(h':Heap)(S:Nat→Bool):Dom:=fun b=>
 D b∨∃j,S j=true∧j<l.length∧(aj tr h' j).next≤b∧b<(aj tr h' (j+1)).next
structure J(P:Program)(H0:Nat)(D:Dom)(N:Nat)(l:List bh)(bs:List Nat)(e:Env)(h:Heap)(tr:List aG)(h':Heap)(qO:cn)(w0:World)(a0:Act)
  (S:Nat→Bool)(c:Nat)(ρ:cn)(a:Act)(w:World):Prop where
 cut:Cut l S c
 closed:∀j,S j=true→∀i,ow bs j i→S i=true
 inv:Inv P H0 ρ (DS D l tr h' S) (cg l tr h' c) w
 ext:Ext qO D h w0 ρ (cg l tr h' c) w
 made:∀(j:Nat) (x:bh) (m:aG) (bk:ck),l[j]?=some x→tr[j]?=some m→dm x m=some bk→S j=false→(cg l tr h' c).get (aj tr h' j).next=some bk
 env:bz ρ (DS D l tr h' S) N (eL S l tr e) a
 defers:a.defers=a0.defers
theorem Inv.congr{ρ:cn}{h2:Heap}{w:World}(i:Inv P H0 ρ D h w)(hn:h2.next=h.next)(hg:∀b,h2.get b=h.get b):Inv P H0 ρ D h2 w:=by
 have gT:∀b,h2.wr b=h.wr b:=fun b=>by simp only[Heap.wr,hg]
 refine⟨fun b hb=>by rw[hn];exact i.lt b hb,fun b hb=>by rw[hg];exact i.top b (by omega),i.low,fun b x hb hx=>i.bB b x hb (by rw[←hg];exact hx),fun b b' hb hb' hne hw hx=>?_⟩;rw[gT] at hw;rw[hg] at hx;exact i.apart b b' hb hb' hne hw hx
theorem Ext.congr{ρ ρ':cn}{h2 h3:Heap}{w w':World}(x:Ext ρ D h w ρ' h2 w')(hn:h3.next=h2.next)(hg:∀b,h3.get b=h2.get b):Ext ρ D h w ρ' h3 w':=by
 have gT:∀b,h3.wr b=h2.wr b:=fun b=>by simp only[Heap.wr,hg]
 exact⟨by rw[hn];exact x.next,x.bp,x.size,x.frame,fun b h1 h2=>by rw[hg];exact x.gJ b h1 h2,fun b h1 h2=>by rw[hg] at h2;rw[gT];exact x.old b h1 h2,
  fun b h1 h2=>x.fresh b h1 (by omega),x.tape,x.os,x.output⟩
theorem bz.congr{ρ:cn}{e1 e2:Env}{a:Act}(he:bz ρ D N e1 a)(hg:∀d,e2.get d=e1.get d):bz ρ D N e2 a:=
 ⟨he.size,fun i=>by rw[hg];exact he.get i,fun i=>by rw[hg];exact he.dom i⟩
theorem Rg.rS(R:Rg P H0 D N l bs e h tr e' h'){S:Nat→Bool}{c i:Nat}{x:bh}(It:Cut l S c)(iL:∀j,S j=true→∀i,ow bs j i→S i=true)(hx:l[i]?=some x)(hsi:S i=false)
  (hpre:∀j,ow bs i j→S j=true):Cut l (fun j=>S j||decide (j=i)) (cond (bH x.op) (i+1) c)∧(bH x.op=true→Cut l S i):=by
 have hi:bH x.op=true→Cut l S i:=by
  intro he j y hy Nu;constructor
  ·intro hs;by_cases hji:j<i
   ·exact hji
   ·have hne:j≠i:=by rintro rfl;rw[hs] at hsi;simp at hsi
    rcases R.pairs i j x y (by omega) hx hy with hb|hb
    ·have:=iL j hs i hb;rw[this] at hsi;simp at hsi
    ·exact absurd ⟨he,Nu⟩ hb.1
  ·intro hji;rcases R.pairs j i y x hji hy hx with hb|hb
   ·exact hpre j hb
   ·exact absurd ⟨Nu,he⟩ hb.1
 refine⟨?_,hi⟩;cases he:bH x.op with
 |true=>
  intro j y hy Nu;have:=hi he j y hy Nu;by_cases hji:j=i
  ·subst hji;simp
  ·simp[hji,this];omega
 |false=>
  intro j y hy Nu;have hne:j≠i:=by rintro rfl;rw[hx] at hy;cases hy;rw[he] at Nu;simp at Nu
  simp[hne,It j y hy Nu]
theorem Rg.slot(R:Rg P H0 D N l bs e h tr e' h'){S:Nat→Bool}{i:Nat}{x:bh}(iL:∀j,S j=true→∀i,ow bs j i→S i=true)(hx:l[i]?=some x)(hsi:S i=false)
  (hpre:∀j,ow bs i j→S j=true){d:Nat}(hd:d∈x.reads):(eL S l tr e).get d=(cD l tr i e).get d:=by
 refine mV l tr S i d e e rfl R.ot.length ?_;intro j y hy CM;have hnm:x.names.contains d=true:=by simp[bh.names,hd]
 by_cases hji:j<i
 ·rw[decide_eq_true hji];rcases R.pairs j i y x hji hy hx with hb|hb
  ·exact hpre j hb
  ·have:=hb.2;unfold nB at this;rw[CM] at this;simp only[hnm] at this;simp at this
 ·rw[decide_eq_false hji];by_cases he:j=i
  ·subst he;exact hsi
  ·rcases R.pairs i j x y (by omega) hx hy with hb|hb
   ·cases hs:S j with
    |false=>rfl
    |true=>have:=iL j hs i hb;rw[this] at hsi;simp at hsi
   ·have:=hb.2;unfold nB at this;rw[CM] at this;simp only[hnm] at this;simp at this
theorem Rg.late(R:Rg P H0 D N l bs e h tr e' h'){S:Nat→Bool}{i:Nat}{x:bh}(iL:∀j,S j=true→∀i,ow bs j i→S i=true)(hx:l[i]?=some x)(hsi:S i=false)
  {d:Nat}{j:Nat}{y:bh}(hij:i<j)(hy:l[j]?=some y)(Pf:x.dst=some d)(CM:y.dst=some d):S j=false:=by
 rcases R.pairs i j x y hij hx hy with hb|hb
 ·cases hs:S j with
  |false=>rfl
  |true=>have:=iL j hs i hb;rw[this] at hsi;simp at hsi
 ·have:=hb.2;unfold nB at this;rw[CM,Pf] at this;simp[bh.names,CM] at this
end
end Ads
end Go.Proofs.Ytecdcefacdodgaa
set_option linter.unusedSimpArgs false
set_option linter.unusedVariables false
namespace Go.Proofs.Ytecdcefacdodgaa
namespace Ads
section
variable {P:Program} {H0:Nat} {D:Dom} {N:Nat} {l:List bh} {bs:List Nat} {e:Env} {h:Heap} {tr:List aG} {e':Env} {h':Heap}
 {qO:cn} {w0:World} {a0:Act} {S:Nat→Bool} {c:Nat} {ρ:cn} {a:Act} {w:World} {i:Nat} {x:bh} {m:aG}
def cU(S:Nat→Bool)(i:Nat):Nat→Bool:=fun j=>S j||decide (j=i)
theorem jM(hi:i<l.length)(b:Nat):DS D l tr h' (cU S i) b↔DS D l tr h' S b∨((aj tr h' i).next≤b∧b<(aj tr h' (i+1)).next):=by
 constructor
 ·rintro(hb|⟨j,hs,hj,h1,h2⟩)
  ·exact .inl (.inl hb)
  ·by_cases hji:j=i
   ·subst hji;exact .inr ⟨h1,h2⟩
   ·simp only[cU,hji,decide_false,Bool.or_false] at hs;exact .inl (.inr ⟨j,hs,hj,h1,h2⟩)
 ·rintro((hb|⟨j,hs,hj,h1,h2⟩)|hb)
  ·exact .inl hb
  ·exact .inr ⟨j,by simp[cU,hs],hj,h1,h2⟩
  ·exact .inr ⟨i,by simp[cU],hi,hb.1,hb.2⟩
theorem G8(hi:i<l.length)(hs:aj tr h' (i+1)=aj tr h' i):DS D l tr h' (cU S i)=DS D l tr h' S:=by
 funext b
 rw[eq_iff_iff,jM hi,hs];constructor
 ·rintro(hb|hb)
  ·exact hb
  ·omega
 ·exact .inl
theorem Heap.jd{h1 h2:Heap}{b:Nat}(hg:h1.get b=h2.get b):h1.wr b=h2.wr b:=by simp only[Heap.wr,hg]
structure Up(bs:List Nat)(l:List bh)(tr:List aG)(S:Nat→Bool)(i:Nat)(x:bh)(m:aG):Prop where
 hx:l[i]?=some x
 hm:tr[i]?=some m
 hsi:S i=false
 pre:∀j,ow bs i j→S j=true
theorem Up.lt(u:Up bs l tr S i x m):i<l.length:=(List.getElem?_eq_some_iff.1 u.hx).1
theorem J.oX(j:J P H0 D N l bs e h tr h' qO w0 a0 S c ρ a w)(u:Up bs l tr S i x m):∀k,cU S i k=true→∀k',ow bs k k'→cU S i k'=true:=by
 intro k hk k' hb;simp only[cU,Bool.or_eq_true,decide_eq_true_eq] at hk⊢;rcases hk with hk|rfl
 ·exact .inl (j.closed k hk k' hb)
 ·exact .inl (u.pre k' hb)
theorem J.wh(R:Rg P H0 D N l bs e h tr e' h')(j:J P H0 D N l bs e h tr h' qO w0 a0 S c ρ a w)(u:Up bs l tr S i x m){ρ':cn}(fI:∀b,DS D l tr h' S b→ρ' b=ρ b)
  (hv:m.v.aP (DS D l tr h' (cU S i))):bz ρ' (DS D l tr h' (cU S i)) N (eL (cU S i) l tr e) (a.put x.dst (real ρ' m.v)):=by
 have h1:bz ρ' (DS D l tr h' (cU S i)) N (eL S l tr e) a:=j.env.mono fI (fun b hb=>(jM u.lt b).2 (.inl hb));refine(h1.put (tO R.ok u.hx) hv).congr ?_;intro d;exact yu l tr S (cU S i) i x m e d R.ot.length u.hx u.hm (fun _=>rfl) u.hsi (fun k y hk hy Pf CM=>R.late j.closed u.hx u.hsi hk hy Pf CM)
theorem J.slots(R:Rg P H0 D N l bs e h tr e' h')(j:J P H0 D N l bs e h tr h' qO w0 a0 S c ρ a w)(u:Up bs l tr S i x m){d:Nat}(hd:d∈x.reads):
  (eL S l tr e).get d=(cD l tr i e).get d:=R.slot j.closed u.hx u.hsi u.pre hd
theorem kI{rs:List bA}{t:Nat}(h:bA.t t∈rs):t∈gv rs:=by
 induction rs with
 |nil=>simp at h
 |cons r rs ih=>
  rcases List.mem_cons.1 h with rfl|hh
  ·simp[gv]
  ·cases r<;>simp[gv,ih hh]
theorem J.vals(R:Rg P H0 D N l bs e h tr e' h')(j:J P H0 D N l bs e h tr h' qO w0 a0 S c ρ a w)(u:Up bs l tr S i x m):x.args.map (eL S l tr e).ev=x.args.map (cD l tr i e).ev:=by
 refine List.map_congr_left fun r hr=>?_;cases r with
 |c v=>rfl
 |t d=>exact j.slots R u (List.mem_append_right _ (kI hr))
theorem J.wanted(R:Rg P H0 D N l bs e h tr e' h')(j:J P H0 D N l bs e h tr h' qO w0 a0 S c ρ a w)(u:Up bs l tr S i x m):bF x (eL S l tr e)=bF x (cD l tr i e):=by
 unfold bF;cases hg:x.guard with
 |none=>rfl
 |some p=>
  obtain⟨d,want⟩:=p;simp only;rw[j.slots R u (by simp[bh.reads,hg])]
theorem J.quiet(R:Rg P H0 D N l bs e h tr e' h')(j:J P H0 D N l bs e h tr h' qO w0 a0 S c ρ a w)(u:Up bs l tr S i x m)(hst:aj tr h' (i+1)=aj tr h' i)(hmb:dm x m=none)
  (hv:m.v.aP (DS D l tr h' S)):J P H0 D N l bs e h tr h' qO w0 a0 (cU S i) (cond (bH x.op) (i+1) c) ρ (a.put x.dst (real ρ m.v)) w:=by
 have hcs:=R.rS j.cut j.closed u.hx u.hsi u.pre;have hds:DS D l tr h' (cU S i)=DS D l tr h' S:=G8 u.lt hst;have Iw:∀b,(cg l tr h' (cond (bH x.op) (i+1) c)).get b=(cg l tr h' c).get b:=by
  intro b;cases he:bH x.op with
  |false=>rfl
  |true=>
   rw[R.Fs j.cut (hcs.2 he) b];simp only[cond_true];show(eW (l.drop (i+1)) (tr.drop (i+1)) (aj tr h' (i+1)).m).get b=(eW (l.drop i) (tr.drop i) (aj tr h' i).m).get b;rw[drop_cons u.hx,drop_cons u.hm,hst];simp only[eW,hmb]
 refine⟨hcs.1,j.oX u,?_,j.ext.congr rfl Iw,?_,?_,?_⟩
 ·rw[hds];exact j.inv.congr rfl Iw
 ·intro k y n bk hy hn hb hs;rw[Iw];refine j.made k y n bk hy hn hb ?_;simp only[cU,Bool.or_eq_false_iff] at hs;exact hs.1
 ·exact j.wh R u (fun _ _=>rfl) (by rw[hds];exact hv)
 ·rw[←j.defers];cases x.dst<;>rfl
theorem J.yV(j:J P H0 D N l bs e h tr h' qO w0 a0 S c ρ a w){c':Nat}(hg:∀(k:Nat) (y:bh) (n:aG) (bk:ck),l[k]?=some y→tr[k]?=some n→dm y n=some bk→S k=false→k≠i→
   (cg l tr h' c).get (aj tr h' k).next=some bk→(cg l tr h' c').get (aj tr h' k).next=some bk):
  ∀(k:Nat) (y:bh) (n:aG) (bk:ck),l[k]?=some y→tr[k]?=some n→dm y n=some bk→cU S i k=false→(cg l tr h' c').get (aj tr h' k).next=some bk:=by
 intro k y n bk hy hn hb hs;simp only[cU,Bool.or_eq_false_iff,decide_eq_false_iff_not] at hs;exact hg k y n bk hy hn hb hs.1 hs.2 (j.made k y n bk hy hn hb hs.1)
theorem Rg.E9(R:Rg P H0 D N l bs e h tr e' h'){k:Nat}{y:bh}{n:aG}{bk:ck}(hy:l[k]?=some y)(hn:tr[k]?=some n)(hb:dm y n=some bk)(hs:S k=false):
  ¬DS D l tr h' S (aj tr h' k).next:=by
 rintro(hd|⟨q,hq,hql,h1,h2⟩)
 ·have:=R.LI _ hd;have:=R.tT.low k;omega
 ·by_cases hqk:q=k
  ·subst hqk;rw[hs] at hq;simp at hq
  ·by_cases hlt:q<k
   ·have:=R.tT.mono (q+1) k (by omega);omega
   ·have:=R.BQ hy hn hb (i:=q) (by omega);omega
theorem J.alloc(R:Rg P H0 D N l bs e h tr e' h')(j:J P H0 D N l bs e h tr h' qO w0 a0 S c ρ a w)(u:Up bs l tr S i x m){bk:ck}(hb:dm x m=some bk){obj:Obj}
  (zY:∀ρ' D',(∀b,DS D l tr h' S b→D' b)→(∀b,DS D l tr h' S b→ρ' b=ρ b)→dU P H0 ρ' D' ⟨w.heap.size,0,0⟩ bk (w.alloc obj))
  (hv:m.v.aP (DS D l tr h' (cU S i))):
  J P H0 D N l bs e h tr h' qO w0 a0 (cU S i) c (kW ρ (aj tr h' i).next ⟨w.heap.size,0,0⟩) (a.put x.dst (real (kW ρ (aj tr h' i).next ⟨w.heap.size,0,0⟩) m.v)) (w.alloc obj):=by
 have hcs:=R.rS j.cut j.closed u.hx u.hsi u.pre;obtain⟨⟨o,f,ho,dI,hai,yJ⟩,hst,BH⟩:=R.made u.hx u.hm hb;have hne:bH x.op=false:=by rw[ho];rfl
 rw[hne] at hcs;have hnot:=R.E9 u.hx u.hm hb u.hsi;have bW:=j.made i x m bk u.hx u.hm hb u.hsi;generalize hid:(aj tr h' i).next=id at*
 have di:(aj tr h' (i+1)).next=id+1:=by rw[hst];simp[hid]
 have hds:∀b,DS D l tr h' (cU S i) b↔DS D l tr h' S b∨b=id:=by
  intro b;rw[jM u.lt,di,hid];constructor
  ·rintro(hb|hb)
   ·exact .inl hb
   ·exact .inr (by omega)
  ·rintro(hb|rfl)
   ·exact .inl hb
   ·exact .inr (by omega)
 have fI:∀b,DS D l tr h' S b→kW ρ id ⟨w.heap.size,0,0⟩ b=ρ b:=fun b hb=>jD _ _ (by rintro rfl;exact hnot hb);have hold:∀r,r<w.heap.size→(w.alloc obj).heap[r]?=w.heap[r]?:=by
  intro r hr;show(w.heap.push obj)[r]?=_;rw[Array.getElem?_push,if_neg (by omega)]
 have hsz:(w.alloc obj).heap.size=w.heap.size+1:=by show(w.heap.push obj).size=_;simp
 have RQ:id<h'.next:=by have:=R.le_last (i+1);omega
 have VW:h.next≤id:=by have:=R.tT.low i;omega
 refine⟨hcs.1,j.oX u,?_,?_,j.yV (fun _ _ _ _ _ _ _ _ _ hg=>hg),j.wh R u fI hv,?_⟩
 ·refine⟨?_,j.inv.top,by rw[hsz];have:=j.inv.low;omega,?_,?_⟩
  ·intro b hb;rcases(hds b).1 hb with hb|rfl
   ·exact j.inv.lt b hb
   ·exact RQ
  ·intro b y hb hy;rcases(hds b).1 hb with hb|rfl
   ·have:=j.inv.bB b y hb hy;rw[fI b hb];exact bG this (fun b hb=>(hds b).2 (.inl hb)) fI (hold _ (fX this))
   ·rw[bW] at hy;cases hy
    rw[bE];exact zY _ _ (fun b hb=>(hds b).2 (.inl hb)) fI
  ·intro b b' hb hb' BA hw hg;rcases(hds b).1 hb with hb|rfl
   ·rw[fI b hb];rcases(hds b').1 hb' with hb'|rfl
    ·rw[fI b' hb'];exact j.inv.apart b b' hb hb' BA hw hg
    ·rw[bE];have:=j.inv.SZ b hb hw;simp only;omega
   ·rcases(hds b').1 hb' with hb'|rfl
    ·rw[fI b' hb',bE];have:=j.inv.Mu hb' hg;simp only;omega
    ·exact absurd rfl BA
 ·have x0:=j.ext;refine⟨x0.next,?_,by rw[hsz];have:=x0.size;omega,?_,x0.gJ,x0.old,?_,x0.tape,x0.os,x0.output⟩
  ·intro b hb;rw[fI b (.inl hb)];exact x0.bp b hb
  ·intro r hr hf;rw[hold r (by have:=x0.size;omega)];exact x0.frame r hr hf
  ·intro b r6 jf;by_cases yG:b=id
   ·subst yG;rw[bE];exact .inl x0.size
   ·rw[jD _ _ yG];exact x0.fresh b r6 jf
 ·rw[←j.defers];cases x.dst<;>rfl
end
end Ads
end Go.Proofs.Ytecdcefacdodgaa
set_option linter.unusedSimpArgs false
set_option linter.unusedVariables false
namespace Go.Proofs.Ytecdcefacdodgaa
namespace Ads
section
variable {P:Program} {H0:Nat} {D:Dom} {N:Nat} {l:List bh} {bs:List Nat} {e:Env} {h:Heap} {tr:List aG} {e':Env} {h':Heap}
 {qO:cn} {w0:World} {a0:Act} {S:Nat→Bool} {c:Nat} {ρ:cn} {a:Act} {w:World} {i:Nat} {x:bh} {m:aG} {ro:Option Nat} {n:Nat}
def only(e:Env):List Nat→Env
 |[]=>.nil
 |d::ds=>Tr.set (only e ds) d (e.get d)
theorem o5(e:Env)(d:Nat):∀ds:List Nat,(only e ds).get d=if d∈ds then e.get d else .undef
 |[]=>by simp[only,Env.get,Tr.get]
 |x::ds=>by
  show((Tr.set (only e ds) x (e.get x)).get d).getD .undef=_;rw[Tr.bl];by_cases hx:d=x
  ·subst hx;simp
  ·rw[if_neg hx];have:=o5 e d ds;unfold Env.get at this;simp only[List.mem_cons,hx,false_or];exact this
def yc(ρ:cn)(N:Nat)(e:Env)(a:Act):Act:={a with tmps:=Array.ofFn (n:=N) fun i=>real ρ (e.get i)}
theorem FB{D:Dom}(hh:∀i,N≤i→real ρ (e.get i)=Go.undef)(hd:∀i,(e.get i).aP D):bz ρ D N e (yc ρ N e a) where
 size:=by simp[yc]
 get:=fun i=>by
  by_cases hi:i<N
  ·simp[yc,Array.getD_eq_getD_getElem?,hi]
  ·rw[hh i (by omega)];simp[yc,Array.getD_eq_getD_getElem?,hi]
 dom:=hd
theorem xF{op:Op}{Xw:fh}{rs:List bA}(hc:an P op=some (Xw,rs))(he:bH Xw=true):
  (∀cs b,op≠.select cs b)∧∀y∈op.operands,∃r∈rs,cW y=some r:=by
 have key:∀(xs:List Operand) (rs:List bA),bT xs=some rs→∀y∈xs,∃r∈rs,cW y=some r:=by
  intro xs;induction xs with
  |nil=>intro rs h y hy;simp at hy
  |cons z xs ih=>
   intro rs h y hy;obtain⟨r,rs',rfl,h1,h2⟩:=cX h;rcases List.mem_cons.1 hy with rfl|hy
   ·exact⟨r,by simp,h1⟩
   ·obtain⟨r',hr',h3⟩:=ih rs' h2 y hy;exact⟨r',by simp[hr'],h3⟩
 cases op
 case store t a y=>
  simp only[an,Option.bind_eq_some_iff] at hc;obtain⟨k,_,hc⟩:=hc;simp only[one,Option.map_eq_some_iff,Prod.mk.injEq] at hc;obtain⟨rs',hr,_,rfl⟩:=hc;exact⟨by simp,fun y hy=>key _ _ hr y (by simpa[Op.operands] using hy)⟩
 case panic y=>
  simp only[an,one,Option.map_eq_some_iff,Prod.mk.injEq] at hc;obtain⟨rs',hr,_,rfl⟩:=hc;exact⟨by simp,fun y hy=>key _ _ hr y (by simpa[Op.operands] using hy)⟩
 case call k=>
  refine⟨by simp,fun y hy=>?_⟩;simp only[an] at hc;split at hc
  ·rename_i f hf;simp only[Option.map_eq_some_iff,Prod.mk.injEq] at hc;obtain⟨rs',hr,_,rfl⟩:=hc;exact key _ _ hr y (by simpa[Op.operands,Call.operands,hf] using hy)
  ·rename_i f nm hf;simp only[Option.map_eq_some_iff,Prod.mk.injEq] at hc;obtain⟨rs',hr,_,rfl⟩:=hc;exact key _ _ hr y (by simpa[Op.operands,Call.operands,hf] using hy)
  ·rename_i b hf;have We:(Op.call k).operands=k.args:=by simp[Op.operands,Call.operands,hf]
   rw[We] at hy;have hy':y∈k.args.toList:=by simpa using hy
   split at hc
   ·exfalso;repeat' (first
     |(obtain⟨h2,_⟩:=aN hc;subst h2;simp[bH] at he;done)
     |(simp at hc;done)
     |(split at hc))
   ·exfalso;obtain⟨h2,_⟩:=aN hc;subst h2;simp[bH] at he
   ·exfalso;obtain⟨h2,_⟩:=aN hc;subst h2;simp[bH] at he
   ·rename_i s z t u ts hargs ej;rw[hargs] at hy';split at hc
    ·split at hc
     ·simp at hc
     ·split at hc
      ·split at hc
       ·simp at hc
       ·exact key _ _ (aN hc).2 y hy'
      ·simp at hc
    ·simp at hc
   ·rename_i s z t ts hargs ej;rw[hargs] at hy';split at hc
    ·simp only[Option.bind_eq_some_iff] at hc;obtain⟨size,hsz,hc⟩:=hc;exact key _ _ (aN hc).2 y hy'
    ·simp at hc
   ·rename_i z t hargs ej;rw[hargs] at hy';split at hc
    ·simp only[Option.bind_eq_some_iff] at hc;obtain⟨u,_,hc⟩:=hc;exact key _ _ (aN hc).2 y hy'
    ·exfalso;obtain⟨h2,_⟩:=aN hc;subst h2;simp[bH] at he
    ·simp at hc
   ·rename_i z z2 t ts hargs ej;rw[hargs] at hy';split at hc
    ·split at hc
     ·exact key _ _ (aN hc).2 y hy'
     ·simp at hc
    ·simp at hc
   ·simp at hc
 case range t x=>
  simp only[an] at hc;split at hc
  ·exact⟨by simp,fun y hy=>key _ _ (aN hc).2 y (by simpa[Op.operands] using hy)⟩
  ·simp at hc
 case next it s=>
  cases s with
  |true=>simp[an] at hc
  |false=>
   simp only[an] at hc;exact⟨by simp,fun y hy=>key _ _ (aN hc).2 y (by simpa[Op.operands] using hy)⟩
 case mapUpdate t m k x=>
  simp only[an] at hc;split at hc
  ·split at hc
   ·exact⟨by simp,fun y hy=>key _ _ (aN hc).2 y (by simpa[Op.operands] using hy)⟩
   ·exfalso;obtain⟨h2,_⟩:=aN hc;subst h2;simp[bH] at he
   ·exfalso;obtain⟨h2,_⟩:=aN hc;subst h2;simp[bH] at he
   ·simp at hc
  ·simp at hc
 case insert t m k x=>
  simp only[an] at hc;split at hc
  ·split at hc
   ·exact⟨by simp,fun y hy=>key _ _ (aN hc).2 y (by simpa[Op.operands] using hy)⟩
   ·exfalso;obtain⟨h2,_⟩:=aN hc;subst h2;simp[bH] at he
   ·exfalso;obtain⟨h2,_⟩:=aN hc;subst h2;simp[bH] at he
   ·simp at hc
  ·simp at hc
 case unOp u t y=>
  exfalso;cases u<;>simp only[an] at hc<;>first
   |(obtain⟨h2,_⟩:=aN hc;subst h2;simp[bH] at he;done)
   |(simp at hc;done)
 case makeMap t r=>
  exfalso;cases r with
  |none=>simp only[an] at hc;obtain⟨h2,_⟩:=aN hc;subst h2;simp[bH] at he
  |some r=>simp[an] at hc
 all_goals (exfalso;simp only[an] at hc)
 all_goals repeat' (first
  |(simp only[Option.bind_eq_some_iff] at hc;obtain⟨_,_,hc⟩:=hc)
  |(simp only[Option.map_eq_some_iff] at hc;obtain⟨_,_,hc⟩:=hc;simp only[Prod.mk.injEq] at hc;obtain⟨hc,_⟩:=hc;subst hc;simp[bH] at he;done)
  |(obtain⟨h2,_⟩:=aN hc;subst h2;simp[bH] at he;done)
  |(simp at hc;done)
  |(split at hc))
end
end Ads
end Go.Proofs.Ytecdcefacdodgaa
set_option linter.unusedSimpArgs false
set_option linter.unusedVariables false
namespace Go.Proofs.Ytecdcefacdodgaa
namespace Ads
section
variable {P:Program} {H0:Nat} {D:Dom} {N:Nat} {l:List bh} {bs:List Nat} {e:Env} {h:Heap} {tr:List aG} {e':Env} {h':Heap}
 {qO:cn} {w0:World} {a0:Act} {S:Nat→Bool} {c:Nat} {ρ:cn} {a:Act} {w:World} {i:Nat} {x:bh} {m:aG} {ro:Option Nat} {n:Nat}
theorem Gs{d:Option Nat}{a a2:Act}{u v:Value}(hd:vA N d=true)(h2:a2.tmps.size=N)(hp:a2.put d u=a2.put d v):a.put d u=a.put d v:=by
 cases d with
 |none=>rfl
 |some d=>
  have hlt:d<N:=Nat.le_of_ble_eq_true (show Nat.ble (d+1) N=true from hd);have:(a2.tmps.setIfInBounds d u)[d]?=(a2.tmps.setIfInBounds d v)[d]?:=congrArg (fun z:Act=>z.tmps[d]?) hp;simp[h2,hlt] at this;rw[this]
theorem put_defers{d:Option Nat}{a:Act}{v:Value}:(a.put d v).defers=a.defers:=by cases d<;>rfl
theorem Ep{o:Oper}{a a2:Act}{w:World}{next:Act→World→Prop}{Q:Exit→Act→World→Prop}(hd:vA N o.dst=true)(h2:a2.tmps.size=N)
  (hs:Oper.semAt (FW ro).round a.eval o=Oper.semAt (FW ro).round a2.eval o)
  (h:o.wpIn (FW ro) n P a2 w (fun z w'=>∃v,z=a2.put o.dst v∧next (a.put o.dst v) w') (fun _ _ _=>False)):o.wpIn (FW ro) n P a w next Q:=by
 refine⟨fun _ _=>trivial,?_⟩;rw[hs];have h:=h.2;generalize(Oper.semAt (FW ro).round a2.eval o).run P w=r at h;have key:∀(v:Value) (w':World),(∃v',a2.put o.dst v=a2.put o.dst v'∧next (a.put o.dst v') w')→next (a.put o.dst v) w':=by
  rintro v w' ⟨v',h1,h3⟩;rw[Gs (a:=a) hd h2 h1];exact h3
 cases r with
 |ok x w'=>
  cases x<;>simp only[Oper.uponIn] at h⊢
  case value v=>exact key _ _ h
  case skip=>exact key _ _ h
  case defer d=>
   exfalso;obtain⟨v,h1,_⟩:=h;have:=congrArg Act.defers h1;rw[put_defers,put_defers] at this;have:=congrArg List.length this;simp at this
  case enter f args=>
   exact⟨h.1,CallsIn.mono h.2 (fun e w'' he=>by
    cases e with
    |returned v=>exact key _ _ he
    |panicked c=>exact he.elim
    |outgrown=>obtain⟨_,_,q⟩:=he;exact q.elim)⟩
  case row row args=>exact⟨h.1,RowsIn.mono h.2 (fun _ _ he=>key _ _ he)⟩
  case round l f tmps as bd=>
   exact⟨h.1,RoundIn.mono h.2 (fun e w'' he=>by
    cases e with
    |returned v=>exact key _ _ he
    |panicked c=>exact he.elim
    |outgrown=>obtain⟨_,_,q⟩:=he;exact q.elim)⟩
  all_goals (first|exact h.elim|skip)
 |halt x w'=>
  cases x<;>simp only[Oper.uponIn] at h
def Lp(D:Dom)(l:List bh)(h:Heap)(tr:List aG)(h':Heap)(S:Nat→Bool)(i:Nat):Dom:=fun b=>
 DS D l tr h' S b∧grow D h.next (aj tr h' i).next b
theorem N8(R:Rg P H0 D N l bs e h tr e' h'){b:Nat}(hb:DS D l tr h' S b)(hlt:b<(aj tr h' i).next):Lp D l h tr h' S i b:=by
 refine⟨hb,?_⟩;rcases hb with hb|⟨q,_,_,h1,_⟩
 ·exact .inl hb
 ·exact .inr ⟨Nat.le_trans (R.tT.low q) h1,hlt⟩
theorem oJ(R:Rg P H0 D N l bs e h tr e' h'){b:Nat}(hb:Lp D l h tr h' S i b):b<(aj tr h' i).next:=by
 rcases hb.2 with hd|hd
 ·exact Nat.lt_of_lt_of_le (R.LI b hd) (R.tT.low i)
 ·exact hd.2
theorem J.before(R:Rg P H0 D N l bs e h tr e' h')(j:J P H0 D N l bs e h tr h' qO w0 a0 S c ρ a w)(u:Up bs l tr S i x m)(he:bH x.op=true):
  (∀b,b<(aj tr h' i).next→(aj tr h' i).get b=(cg l tr h' c).get b)∧Inv P H0 ρ (Lp D l h tr h' S i) (aj tr h' i) w:=by
 have hcs:=R.rS j.cut j.closed u.hx u.hsi u.pre;have hg:∀b,b<(aj tr h' i).next→(aj tr h' i).get b=(cg l tr h' c).get b:=by
  intro b hb;rw[R.Fs j.cut (hcs.2 he) b,R.Ft hb]
 refine⟨hg,fun b hb=>oJ R hb,fun b hb=>R.tT.top i b hb,j.inv.low,?_,?_⟩
 ·intro b y hb hy;have hlt:=oJ R hb;have h1:=j.inv.bB b y hb.1 (by rw[←hg b hlt];exact hy);obtain⟨Kt,wv,av,iv,_⟩:=R.tT.run i;exact xB h1 (iv.bB b y hb.2 hy)
 ·intro b b' hb hb' hne hw hx;exact j.inv.apart b b' hb.1 hb'.1 hne (by rw[←Heap.jd (hg b (oJ R hb))];exact hw) (by rw[←hg b' (oJ R hb')];exact hx)
theorem J.effect(R:Rg P H0 D N l bs e h tr e' h')(j:J P H0 D N l bs e h tr h' qO w0 a0 S c ρ a w)(u:Up bs l tr S i x m)(he:bH x.op=true)
  {o:Oper}(hc:an P o.op=some (x.op,x.args))(lC:x.dst=o.dst)(yJ:m.vals=x.args.map (cD l tr i e).ev)
  (hop:uL P H0 x.op m.vals (aj tr h' i) m.v (aj tr h' (i+1))){next:Act→World→Prop}{Q:Exit→Act→World→Prop}
  (hk:∀ρ' w',J P H0 D N l bs e h tr h' qO w0 a0 (cU S i) (i+1) ρ' (a.put x.dst (real ρ' m.v)) w'→next (a.put x.dst (real ρ' m.v)) w'):o.wpIn (FW ro) n P a w next Q:=by
 have hcs:=R.rS j.cut j.closed u.hx u.hsi u.pre;rw[he] at hcs;simp only[cond_true] at hcs;have It:=hcs.2 trivial;obtain⟨hg,hinv⟩:=j.before R u he;have hmono:=R.tT.mono i (i+1) (by omega);obtain⟨Kt,wv,av,iv,ev⟩:=R.tT.run i;have NC:∀d,d∈gv x.args→(eL S l tr e).get d=(cD l tr i e).get d:=fun d hd=>j.slots R u (List.mem_append_right _ hd);have VI:bz ρ (Lp D l h tr h' S i) N (only (eL S l tr e) (gv x.args)) (yc ρ N (only (eL S l tr e) (gv x.args)) a):=by
  refine FB (fun d hd=>?_) (fun d=>?_)
  ·rw[o5];split
   ·rw[←j.env.get d];simp[Array.getD_eq_getD_getElem?,j.env.size,Nat.not_lt.2 hd]
   ·exact eY ρ
  ·rw[o5];split
   ·rename_i hmem;refine jv (j.env.dom d) ?_;rw[NC d hmem];exact ev.dom d
   ·simp[AV.undef,AV.aP,aW]
 have m0:x.args.map (only (eL S l tr e) (gv x.args)).ev=m.vals:=by
  rw[yJ];refine List.map_congr_left fun r hr=>?_;cases r with
  |c v=>rfl
  |t d=>
   show(only _ _).get d=(cD l tr i e).get d;rw[o5,if_pos (kI hr)];exact NC d (kI hr)
 obtain⟨hsel,F8⟩:=xF hc he;have hex:execOp a.eval o=execOp (yc ρ N (only (eL S l tr e) (gv x.args)) a).eval o:=by
  refine execOp_congr o hsel ?_;intro y hy;obtain⟨r,hr,Xm⟩:=F8 y hy;rw[(aD j.env Xm).1,(aD VI Xm).1];cases r with
  |c v=>rfl
  |t d=>
   show real ρ ((eL S l tr e).get d)=real ρ ((only _ _).get d);rw[o5,if_pos (kI hr)]
 refine Ep (N:=N) (by rw[←lC];exact tO R.ok u.hx) VI.size (by rw[wP hc,wP hc];exact hex) ?_;refine hop.sem o x.args hc ρ _ w _ N _ ro n hinv VI m0 _ _ ?_;intro pP w1 i1 x1 Xr;refine⟨real pP m.v,rfl,?_⟩
 let ir:cn:=fun b=>if(aj tr h' i).next≤b∧b<(aj tr h' (i+1)).next then pP b else ρ b
 have Nn:∀b,(aj tr h' i).next≤b→b<(aj tr h' (i+1)).next→ir b=pP b:=fun b h1 h2=>if_pos ⟨h1,h2⟩
 have No:∀b,¬((aj tr h' i).next≤b∧b<(aj tr h' (i+1)).next)→ir b=ρ b:=fun b h1=>if_neg h1;have Ik:∀b,DS D l tr h' S b→¬((aj tr h' i).next≤b∧b<(aj tr h' (i+1)).next):=by
  rintro b (hb|⟨q,hq,hql,h1,h2⟩) ⟨h3,h4⟩
  ·have:=R.LI b hb;have:=R.tT.low i;omega
  ·by_cases hqi:q=i
   ·subst hqi;rw[u.hsi] at hq;simp at hq
   ·by_cases hlt:q<i
    ·have:=R.tT.mono (q+1) i (by omega);omega
    ·have:=R.tT.mono (i+1) q (by omega);omega
 have fI:∀b,DS D l tr h' S b→ir b=ρ b:=fun b hb=>No b (Ik b hb);have uO:∀b,grow (Lp D l h tr h' S i) (aj tr h' i).next (aj tr h' (i+1)).next b→ir b=pP b:=by
  rintro b (hb|hb)
  ·rw[fI b hb.1,x1.bp b hb]
  ·exact Nn b hb.1 hb.2
 have hval:real ir m.v=real pP m.v:=bU uO _ Xr;have hsub:∀b,grow (Lp D l h tr h' S i) (aj tr h' i).next (aj tr h' (i+1)).next b→DS D l tr h' (cU S i) b:=by
  rintro b (hb|hb)
  ·exact(jM u.lt b).2 (.inl hb.1)
  ·exact(jM u.lt b).2 (.inr hb)
 have hsplit:∀b,DS D l tr h' (cU S i) b→(grow (Lp D l h tr h' S i) (aj tr h' i).next (aj tr h' (i+1)).next b∧b<(aj tr h' (i+1)).next)∨(DS D l tr h' S b∧(aj tr h' (i+1)).next≤b):=by
  intro b hb;rcases(jM u.lt b).1 hb with hb|hb
  ·have:=Ik b hb;by_cases hlt:b<(aj tr h' i).next
   ·exact .inl ⟨.inl (N8 R hb hlt),by omega⟩
   ·exact .inr ⟨hb,by omega⟩
  ·exact .inl ⟨.inr hb,hb.2⟩
 have Iw:∀b,b<(aj tr h' (i+1)).next→(cg l tr h' (i+1)).get b=(aj tr h' (i+1)).get b:=fun b hb=>R.Ft hb
 have z5:∀b,(aj tr h' (i+1)).next≤b→(cg l tr h' (i+1)).get b=(cg l tr h' c).get b:=by
  intro b hb;rw[R.Fs j.cut It b,R.SV u.hx he hb]
 have Wt:∀b,b<(aj tr h' (i+1)).next→(cg l tr h' (i+1)).wr b=(aj tr h' (i+1)).wr b:=fun b hb=>Heap.jd (Iw b hb)
 have hkeep:∀b,DS D l tr h' S b→(aj tr h' (i+1)).next≤b→(cg l tr h' c).get b≠none→∀b0,Lp D l h tr h' S i b0→(aj tr h' i).wr b0=true→(ρ b0).bB≠(ρ b).bB:=by
  intro b hb hlt NA b0 hb0 hw0;have:=oJ R hb0;exact j.inv.apart b0 b hb0.1 hb (by omega) (by rw[←Heap.jd (hg b0 this)];exact hw0) NA
 have iL:=j.oX u;have VY:J P H0 D N l bs e h tr h' qO w0 a0 (cU S i) (i+1) ir (a.put x.dst (real ir m.v)) w1:=by
  refine⟨hcs.1,iL,?_,?_,j.yV ?_,j.wh R u fI (cz hsub _ Xr),by rw[←j.defers];exact put_defers⟩
  ·refine⟨?_,fun b hb=>R.NQ hb,i1.low,?_,?_⟩
   ·intro b hb;rcases hsplit b hb with hb|hb
    ·exact Nat.lt_of_lt_of_le hb.2 (R.le_last _)
    ·exact j.inv.lt b hb.1
   ·intro b y hb hy;rcases hsplit b hb with hb|hb
    ·rw[Iw b hb.2] at hy;rw[uO b hb.1];exact bG (i1.bB b y hb.1 hy) hsub uO rfl
    ·rw[z5 b hb.2] at hy;rw[fI b hb.1];have Dq:=j.inv.bB b y hb.1 hy;refine bG Dq (fun b hb=>(jM u.lt b).2 (.inl hb)) fI ?_;exact x1.frame _ (fX Dq) (hkeep b hb.1 hb.2 (by rw[hy];simp))
   ·intro b b' hb hb' hne hw hx;rcases hsplit b hb with hb|hb<;>rcases hsplit b' hb' with hb'|hb'
    ·rw[uO b hb.1,uO b' hb'.1];exact i1.apart b b' hb.1 hb'.1 hne (by rw[←Wt b hb.2];exact hw) (by rw[←Iw b' hb'.2];exact hx)
    ·rw[uO b hb.1,fI b' hb'.1];rw[z5 b' hb'.2] at hx;rcases hb.1 with hd|hd
     ·rw[x1.bp b hd];have Xs:(aj tr h' (i+1)).wr b=true:=by rw[←Wt b hb.2];exact hw
      have:=(x1.old b (oJ R hd) (Heap.ec Xs)).2;exact hkeep b' hb'.1 hb'.2 hx b hd (this Xs)
     ·rcases x1.fresh b hd.1 hd.2 with hf|⟨b0,k1,k2,k3⟩
      ·have:=j.inv.Mu hb'.1 hx;omega
      ·rw[←k3];exact hkeep b' hb'.1 hb'.2 hx b0 k1 k2
    ·rw[fI b hb.1,uO b' hb'.1];rw[Heap.jd (z5 b hb.2)] at hw;rw[Iw b' hb'.2] at hx;rcases hb'.1 with hd|hd
     ·rw[x1.bp b' hd];have hlt:=oJ R hd;have:=(x1.old b' hlt hx).1;rw[hg b' hlt] at this;exact j.inv.apart b b' hb.1 hd.1 hne hw this
     ·rcases x1.fresh b' hd.1 hd.2 with hf|⟨b0,k1,k2,k3⟩
      ·have:=j.inv.SZ b hb.1 hw;omega
      ·rw[←k3];exact(hkeep b hb.1 hb.2 (Heap.ec hw) b0 k1 k2).symm
    ·rw[fI b hb.1,fI b' hb'.1];rw[Heap.jd (z5 b hb.2)] at hw;rw[z5 b' hb'.2] at hx;exact j.inv.apart b b' hb.1 hb'.1 hne hw hx
  ·have x0:=j.ext;have oQ:=R.tT.low i;have Ij:∀b,DS D l tr h' S b→b<h.next→D b:=by
    rintro b (hb|⟨q,_,_,h1,_⟩) hlt
    ·exact hb
    ·have:=R.tT.low q;omega
   have place:∀b,DS D l tr h' S b→(cg l tr h' c).wr b=true→w0.heap.size≤(ρ b).bB∨∃b0,D b0∧h.wr b0=true∧(qO b0).bB=(ρ b).bB:=by
    intro b hb hw;by_cases hlt:b<h.next
    ·have hd:=Ij b hb hlt;have:=(x0.old b hlt (Heap.ec hw)).2;exact .inr ⟨b,hd,this hw,by rw[x0.bp b hd]⟩
    ·exact x0.fresh b (by omega) (j.inv.lt b hb)
   have place':∀b,Lp D l h tr h' S i b→(aj tr h' i).wr b=true→w0.heap.size≤(ρ b).bB∨∃b0,D b0∧h.wr b0=true∧(qO b0).bB=(ρ b).bB:=
    fun b hb hw=>place b hb.1 (by rw[←Heap.jd (hg b (oJ R hb))];exact hw)
   refine⟨x0.next,?_,Nat.le_trans x0.size x1.size,?_,?_,?_,?_,x1.tape.trans x0.tape,x1.os.trans x0.os,x1.output.trans x0.output⟩
   ·intro b hb;rw[fI b (.inl hb)];exact x0.bp b hb
   ·intro r hr hf;rw[x1.frame r (Nat.lt_of_lt_of_le hr x0.size),x0.frame r hr hf];intro b hb hw;rcases place' b hb hw with hp|⟨b0,k1,k2,k3⟩
    ·omega
    ·rw[←k3];exact hf b0 k1 k2
   ·intro b hb hd;have hlt:b<(aj tr h' i).next:=by omega
    rw[Iw b (by omega),x1.gJ b hlt (fun hin=>hd (Ij b hin.1 hb)),hg b hlt];exact x0.gJ b hb hd
   ·intro b hb hn;have hlt:b<(aj tr h' i).next:=by omega
    rw[Iw b (by omega)] at hn;have k1:=x1.old b hlt hn;have k2:=x0.old b hb (by rw[←hg b hlt];exact k1.1);refine⟨k2.1,?_⟩;intro hw;rw[Wt b (by omega)] at hw;exact k2.2 (by rw[←Heap.jd (hg b hlt)];exact k1.2 hw)
   ·intro b r6 jf;by_cases hnew:(aj tr h' i).next≤b∧b<(aj tr h' (i+1)).next
    ·rw[Nn b hnew.1 hnew.2];rcases x1.fresh b hnew.1 hnew.2 with hf|⟨b0,k1,k2,k3⟩
     ·exact .inl (Nat.le_trans x0.size hf)
     ·rw[←k3];exact place' b0 k1 k2
    ·rw[No b hnew];exact x0.fresh b r6 jf
  ·intro k y q bk hy hq hb hs hki RK;by_cases hlt:(aj tr h' k).next<(aj tr h' i).next
   ·rw[Iw _ (by omega),x1.gJ _ hlt (fun hin=>R.E9 hy hq hb hs hin.1),hg _ hlt];exact RK
   ·have uX:=R.BQ hy hq hb (i:=k+1) (by omega);have:(aj tr h' (i+1)).next≤(aj tr h' k).next:=by
     rcases Nat.lt_or_ge k i with hlt'|hge
     ·have:=R.BQ hy hq hb hlt';omega
     ·exact R.tT.mono (i+1) k (by omega)
    rw[z5 _ this];exact RK
 have:=hk ir w1 VY;rw[hval] at this;rw[←lC];exact this
end
end Ads
end Go.Proofs.Ytecdcefacdodgaa
