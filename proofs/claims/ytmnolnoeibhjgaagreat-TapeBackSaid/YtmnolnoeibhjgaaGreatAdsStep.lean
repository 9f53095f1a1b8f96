/-
  Single steps on the heap: a new block, a store, a slice that is appended to where it lies; loads and stores as the model runs them.
-/
import Derived.Test.YtmnolnoeibhjgaaGreatAdsReal
namespace Go.Proofs.YtmnolnoeibhjgaaGreat
namespace Ads
namespace Heap
theorem gO{α:Type}:∀(l:List α) (o:Nat),splice l o []=l
 |[],0=>rfl
 |[],_+1=>rfl
 |_::_,0=>rfl
 |v::vs,o+1=>by simp[splice,gO vs o]
theorem pE{α:Type}:∀(l:List α) (o:Nat) (x:α) (xs:List α),o<l.length→splice l o (x::xs)=splice (l.set o x) (o+1) xs
 |[],o,x,xs,h=>by simp at h
 |v::vs,0,x,xs,_=>by simp[splice]
 |v::vs,o+1,x,xs,h=>by
  simp only[splice,List.set_cons_succ];rw[pE vs o x xs (by simpa using h)]
theorem rE{α β:Type}(f:α→β):∀(l:List α) (o:Nat) (xs:List α),(splice l o xs).map f=splice (l.map f) o (xs.map f)
 |[],0,[]=>rfl
 |[],0,_::_=>rfl
 |[],_+1,_=>by simp[splice]
 |v::vs,0,[]=>rfl
 |_::vs,0,x::xs=>by simp[splice,rE f vs 0 xs]
 |v::vs,o+1,xs=>by simp[splice,rE f vs o xs]
end Heap
def setRow(w:World)(g:Nat)(o:Obj):World:={w with heap:=w.heap.setIfInBounds g o}
theorem dy(w:World)(g:Nat)(o:Obj)(r:Nat):(setRow w g o).heap[r]?=if r=g then(if g<w.heap.size then some o else none) else w.heap[r]?:=by
 simp only[setRow,Array.getElem?_setIfInBounds];by_cases h:g=r
 ·subst h;simp
 ·rw[if_neg h,if_neg (fun e=>h e.symm)]
theorem setRow_self{w:World}{g:Nat}{o:Obj}(h:w.heap[g]?=some o):setRow w g o=w:=by
 have:w.heap.setIfInBounds g o=w.heap:=by
  apply Array.ext_getElem?;intro r;simp only[Array.getElem?_setIfInBounds];split
  ·rename_i e;subst e;rw[h,if_pos (Array.getElem?_eq_some_iff.1 h).1]
  ·rfl
 unfold setRow;rw[this]
theorem setRow_setRow(w:World)(g:Nat)(o o':Obj):setRow (setRow w g o) g o'=setRow w g o':=by
 simp[setRow]
section
variable {P:Program}
theorem ji(g:Nat)(t:TypeId)(fr:Nat×Nat):∀(vs:List Value) (o i:Nat) (c:Array Value) (w:World),w.heap[g]?=some (.cells c t fr)→
  (∀v∈vs,v.oneCell'=true)→o+i+vs.length≤c.size→(∀j,fr.1≤j→j<fr.2→c.size≤j)→
  (storeCells ⟨g,o,none⟩ vs i).run P w=.ok () (setRow w g (.cells (Heap.splice c.toList (o+i) vs).toArray t fr))
 |[],o,i,c,w,hg,_,_,_=>by
  simp only[storeCells,Sem.run_pure,Heap.gO];rw[setRow_self (by simpa using hg)]
 |v::vs,o,i,c,w,hg,hv,hl,hf=>by
  have ha:Addr.add ⟨g,o,none⟩ i=⟨g,o+i,none⟩:=by
   unfold Addr.add;split
   ·rename_i e;subst e;rfl
   ·rfl
  have hlt:o+i<c.size:=by simp at hl;omega
  have hc:w.cell? ⟨g,o+i,none⟩=some c[o+i]:=by simp[World.cell?,hg,hlt]
  have hfz:w.frozen? ⟨g,o+i,none⟩=false:=by
   obtain⟨lo,hi⟩:=fr;simp only[World.frozen?,hg];have:=hf (o+i);simp only[decide_eq_false_iff_not,Bool.and_eq_false_iff];by_cases h1:lo≤o+i
   ·by_cases h2:o+i<hi
    ·exact absurd (this h1 h2) (by omega)
    ·exact .inr h2
   ·exact .inl h1
  have iB:w.setCell ⟨g,o+i,none⟩ v=setRow w g (.cells (c.setIfInBounds (o+i) v) t fr):=by
   unfold World.setCell setRow
   congr 1
   apply Array.ext_getElem?;intro r;rw[Array.getElem?_modify,Array.getElem?_setIfInBounds];by_cases hr:g=r
   ·subst hr;obtain⟨XW,hge⟩:=Array.getElem?_eq_some_iff.1 hg;simp[XW,hge]
   ·simp[hr]
  unfold storeCells;rw[Sem.run_bind,ha,run_store P w _ v .plain (hv v (List.mem_cons_self ..)),hc];simp only[hfz,Result.andThen,Bool.false_eq_true,if_false];rw[iB];rw[ji g t fr vs o (i+1) (c.setIfInBounds (o+i) v) (setRow w g (.cells (c.setIfInBounds (o+i) v) t fr))
   (by rw[dy,if_pos rfl,if_pos (Array.getElem?_eq_some_iff.1 hg).1]) (fun u hu=>hv u (List.mem_cons_of_mem _ hu)) (by simp at hl⊢;omega) (by simpa using hf)]
  rw[setRow_setRow]
  congr 4
  rw[Heap.pE _ _ _ _ (by simpa using hlt),Array.toList_setIfInBounds,Nat.add_assoc]
variable {H0:Nat} {ρ ρ':cG} {D:Dom} {h:Heap} {w w':World}
theorem vq:∀{v:AV},v.flat=true→(real ρ v).oneCell'=true:=by
 intro v hv;cases v<;>simp_all[AV.flat,real,Value.oneCell']
theorem pX:∀{l:List AV},bz l=true→∀v∈l,v.flat=true
 |[],_,v,hv=>by simp at hv
 |x::xs,hl,v,hv=>by
  simp only[bz] at hl;cases hx:x.flat with
  |false=>simp[hx] at hl
  |true=>
   simp only[hx,cond_true] at hl;rcases List.mem_cons.1 hv with e|e
   ·rw[e];exact hx
   ·exact pX hl v e
theorem Ku{b:Nat}{vs:List AV}(hr:h.row b=some vs):∃wr es,h.get b=some (.cells vs wr es):=by
 unfold Heap.row at hr;split at hr
 ·rename_i vs' wr es hg;exact⟨wr,es,by simp at hr;rw[hg,hr]⟩
 ·simp at hr
theorem cell_of(i:Inv P H0 ρ D h w){b o:Nat}{v:AV}(hd:D b)(hl:h.cP b o=some v):w.cell? ⟨(ρ b).bH,(ρ b).off+o,none⟩=some (real ρ v)∧v.aW D:=by
 unfold Heap.cP at hl;cases hr:h.row b with
 |none=>simp[hr] at hl
 |some vs=>
  simp only[hr] at hl;obtain⟨wr,es,hg⟩:=Ku hr;obtain⟨c,t,fr,hc,h1,_⟩:=i.bH b _ hd hg;have:=h1 o v hl;exact⟨by simp[World.cell?,hc,this.1],this.2⟩
theorem gD{b o n:Nat}{vs:List AV}(hl:h.bt b o n=some vs):vs.length=n∧∀j v,vs[j]?=some v→h.cP b (o+j)=some v:=by
 unfold Heap.bt at hl;cases hr:h.row b with
 |none=>simp[hr] at hl
 |some xs=>
  simp only[hr] at hl;cases hb:Nat.ble (o+n) xs.length with
  |false=>simp[hb] at hl
  |true=>
   simp only[hb,cond_true,Option.some.injEq] at hl;have hle:=Nat.le_of_ble_eq_true hb;subst hl;refine⟨by simp;omega,fun j v hj=>?_⟩;have hjn:j<n:=by
    have:=(List.getElem?_eq_some_iff.1 hj).1;simp at this;omega
   rw[List.getElem?_take_of_lt hjn,List.getElem?_drop] at hj;simp[Heap.cP,hr,hj]
theorem b8(i:Inv P H0 ρ D h w){b o n:Nat}{vs:List AV}(hd:D b)(hl:h.bt b o n=some vs):
  (loadCells ⟨(ρ b).bH,(ρ b).off+o,none⟩ n).run P w=.ok (aq ρ vs).toArray w∧bl D vs:=by
 obtain⟨hn,hc⟩:=gD hl;constructor
 ·subst hn;have:=run_loadCells_list (P:=P) w ⟨(ρ b).bH,(ρ b).off+o,none⟩ (aq ρ vs) (by
   intro j v hj;rw[cH,List.getElem?_map] at hj;cases hv:vs[j]? with
   |none=>simp[hv] at hj
   |some x=>
    simp only[hv,Option.map_some,Option.some.injEq] at hj;have h1:=(cell_of i hd (hc j x hv)).1;have ha:Addr.add ⟨(ρ b).bH,(ρ b).off+o,none⟩ j=⟨(ρ b).bH,(ρ b).off+(o+j),none⟩:=by
     unfold Addr.add;split
     ·rename_i e;subst e;rfl
     ·simp[Nat.add_assoc]
    rw[ha,←hj];exact h1)
  rw[cH,List.length_map] at this;rw[cH];exact this
 ·rw[aN];intro v hv;obtain⟨j,hj⟩:=List.mem_iff_getElem?.1 hv;exact(cell_of i hd (hc j v hj)).2
theorem kC{D:Dom}{n b:Nat}(h:grow D n (n+1) b)(hne:b≠n):D b:=by
 rcases h with h|h
 ·exact h
 ·omega
def j5(ρ:cG)(b:Nat)(L:Loc):cG:=fun x=>if x=b then L else ρ x
theorem bM(ρ:cG)(b:Nat)(L:Loc):j5 ρ b L b=L:=by simp[j5]
theorem jI(ρ:cG){b x:Nat}(L:Loc)(h:x≠b):j5 ρ b L x=ρ x:=by simp[j5,h]
theorem Aa(x:bP)(b:Nat):(h.new x).wr b=if b=h.next then(match x with|.cells _ wr _=>wr|_=>true) else h.wr b:=by
 unfold Heap.wr;rw[Heap.bT];by_cases hb:b=h.next
 ·simp only[hb,if_true];cases x<;>rfl
 ·simp only[hb,if_false]
theorem IP(c:Nat)(x:bP)(b:Nat):(h.set c x).wr b=if b=c then(match x with|.cells _ wr _=>wr|_=>true) else h.wr b:=by
 unfold Heap.wr;rw[Heap.aT];by_cases hb:b=c
 ·simp only[hb,if_true];cases x<;>rfl
 ·simp only[hb,if_false]
theorem wQ(c:Nat)(b:Nat):(h.del c).wr b=if b=c then false else h.wr b:=by
 unfold Heap.wr;rw[Heap.cJ];by_cases hb:b=c
 ·simp only[hb,if_true]
 ·simp only[hb,if_false]
theorem pG(i:Inv P H0 ρ D h w)(x:bP)(extra:Nat)(o:Obj)(hh:w'.heap=w.heap.push o)(ht:w'.tape=w.tape)(hos:w'.os=w.os)(ho:w'.output=w.output)
  (hx:ei P H0 (j5 ρ h.next ⟨w.heap.size,0,extra⟩) (grow D h.next (h.next+1)) ⟨w.heap.size,0,extra⟩ x w'):
  Inv P H0 (j5 ρ h.next ⟨w.heap.size,0,extra⟩) (grow D h.next (h.next+1)) (h.new x) w'∧
  Ext ρ D h w (j5 ρ h.next ⟨w.heap.size,0,extra⟩) (h.new x) w':=by
 have ga:∀b,D b→j5 ρ h.next ⟨w.heap.size,0,extra⟩ b=ρ b:=fun b hb=>jI _ _ (by have:=i.lt b hb;omega);have hold:∀r,r<w.heap.size→w'.heap[r]?=w.heap[r]?:=by
  intro r hr;rw[hh,Array.getElem?_push];rw[if_neg (by omega)]
 constructor
 ·refine⟨?_,?_,?_,?_,?_⟩
  ·rintro b (hb|hb)
   ·have:=i.lt b hb;simp;omega
   ·simp;omega
  ·intro b hb;simp at hb;rw[Heap.bT,if_neg (by omega)];exact i.top b (by omega)
  ·rw[hh];simp;have:=i.low;omega
  ·rintro b y hb hy;rw[Heap.bT] at hy;by_cases he:b=h.next
   ·subst he;simp only[if_true,Option.some.injEq] at hy;subst hy;rw[bM];exact hx
   ·rw[if_neg he] at hy;have hdb:D b:=kC hb he;have oA:=i.bH b y hdb hy;rw[ga b hdb];exact bR oA (fun _=>.inl) ga (hold _ (gy oA))
  ·intro b b' hb hb' hne gp cu;rw[Aa] at gp;rw[Heap.bT] at cu;by_cases he:b=h.next
   ·subst he;rw[bM];have gn:b'≠h.next:=fun e=>hne e.symm;rw[if_neg gn] at cu;have hdb:D b':=kC hb' gn;rw[ga b' hdb];have:=i.J3 hdb cu;simp only;omega
   ·rw[if_neg he] at gp;have hdb:D b:=kC hb he;rw[ga b hdb];by_cases he':b'=h.next
    ·subst he';rw[bM];have:=i.J3 hdb (Heap.eu gp);simp only;omega
    ·rw[if_neg he'] at cu;have Rx:D b':=kC hb' he';rw[ga b' Rx];exact i.apart b b' hdb Rx hne gp cu
 ·refine⟨by simp,ga,by rw[hh];simp,fun r hr _=>hold r hr,?_,?_,?_,ht,hos,ho⟩
  ·intro b hb _;rw[Heap.bT,if_neg (by omega)]
  ·intro b hb hn;rw[Heap.bT,if_neg (by omega)] at hn;rw[Aa,if_neg (by omega)];exact⟨hn,id⟩
  ·intro b h1 h2;simp at h2;have:b=h.next:=by omega
   subst this;rw[bM];exact .inl (Nat.le_refl _)
theorem pH(i:Inv P H0 ρ D h w){b:Nat}{x:bP}(hd:D b)(gp:h.wr b=true)(hxw:(match x with|.cells _ wr _=>wr|_=>true)=true)
  (hs:w'.heap.size=w.heap.size)(hr:∀r,r≠(ρ b).bH→w'.heap[r]?=w.heap[r]?)(ht:w'.tape=w.tape)(hos:w'.os=w.os)(ho:w'.output=w.output)
  (hx:ei P H0 ρ D (ρ b) x w'):Inv P H0 ρ D (h.set b x) w'∧Ext ρ D h w ρ (h.set b x) w':=by
 have hsome:=Heap.eu gp;have A8:∀c,(h.set b x).wr c=h.wr c:=by
  intro c;rw[IP];by_cases he:c=b
  ·subst he;rw[if_pos rfl,hxw,gp]
  ·rw[if_neg he]
 constructor
 ·refine⟨i.lt,?_,by rw[hs];exact i.low,?_,?_⟩
  ·intro c hc;rw[Heap.aT,if_neg (by have:=i.lt b hd;simp at hc;omega)];exact i.top c hc
  ·intro c y hdc hy;rw[Heap.aT] at hy;by_cases he:c=b
   ·subst he;simp only[if_true,Option.some.injEq] at hy;subst hy;exact hx
   ·rw[if_neg he] at hy;refine bR (i.bH c y hdc hy) (fun _=>id) (fun _ _=>rfl) (hr _ ?_);exact fun e=>i.apart b c hd hdc (fun e=>he e.symm) gp (by rw[hy];simp) e.symm
  ·intro c c' hc jC hne hw hg;rw[A8] at hw;rw[Heap.aT] at hg;refine i.apart c c' hc jC hne hw ?_;by_cases he:c'=b
   ·subst he;exact hsome
   ·rw[if_neg he] at hg;exact hg
 ·refine⟨by simp,fun _ _=>rfl,by omega,?_,?_,?_,fun _ h1 h2=>by simp at h2;omega,ht,hos,ho⟩
  ·intro r _ hb;exact hr r (fun e=>hb b hd gp e.symm)
  ·intro c _ hdc;rw[Heap.aT,if_neg (fun(e:c=b)=>hdc (by rw[e];exact hd))]
  ·intro c _ hn;rw[A8];refine⟨?_,id⟩;rw[Heap.aT] at hn;by_cases he:c=b
   ·subst he;exact hsome
   ·rw[if_neg he] at hn;exact hn
theorem IC(i:Inv P H0 ρ D h w){b:Nat}(hd:D b):Inv P H0 ρ D (h.del b) w∧Ext ρ D h w ρ (h.del b) w:=by
 constructor
 ·refine⟨i.lt,fun c hc=>?_,i.low,fun c x hdc hx=>?_,fun c c' hc jC hne hw hg=>?_⟩
  ·rw[Heap.cJ];split
   ·rfl
   ·exact i.top c hc
  ·rw[Heap.cJ] at hx;split at hx
   ·simp at hx
   ·exact i.bH c x hdc hx
  ·rw[wQ] at hw;rw[Heap.cJ] at hg;split at hw
   ·simp at hw
   ·split at hg
    ·simp at hg
    ·exact i.apart c c' hc jC hne hw hg
 ·refine⟨by simp,fun _ _=>rfl,Nat.le_refl _,fun _ _ _=>rfl,fun c _ hdc=>?_,fun c _ hn=>?_,fun _ h1 h2=>by simp at h2;omega,rfl,rfl,rfl⟩
  ·rw[Heap.cJ,if_neg (fun(e:c=b)=>hdc (by rw[e];exact hd))]
  ·rw[Heap.cJ] at hn;rw[wQ];split at hn
   ·simp at hn
   ·rename_i he;rw[if_neg he];exact⟨hn,id⟩
theorem Fv(i:Inv P H0 ρ D h w){b:Nat}(vs:List AV)(es:Nat)(L:Loc)(hL:L.bH=(ρ b).bH)(hd:D b)(gp:h.wr b=true)
  (hs:w'.heap.size=w.heap.size)(hr:∀r,r≠(ρ b).bH→w'.heap[r]?=w.heap[r]?)(ht:w'.tape=w.tape)(hos:w'.os=w.os)(ho:w'.output=w.output)
  (hx:ei P H0 (j5 ρ h.next L) (grow D h.next (h.next+1)) L (.cells vs true es) w'):
  Inv P H0 (j5 ρ h.next L) (grow D h.next (h.next+1)) ((h.del b).new (.cells vs true es)) w'∧
  Ext ρ D h w (j5 ρ h.next L) ((h.del b).new (.cells vs true es)) w':=by
 have Xy:=i.lt b hd;have ga:∀c,D c→j5 ρ h.next L c=ρ c:=fun c hc=>jI _ _ (by have:=i.lt c hc;omega);have cu:∀c,((h.del b).new (.cells vs true es)).get c=if c=h.next then some (.cells vs true es) else if c=b then none else h.get c:=by
  intro c;rw[Heap.bT,Heap.cJ];rfl
 have A8:∀c,((h.del b).new (.cells vs true es)).wr c=if c=h.next then true else if c=b then false else h.wr c:=by
  intro c;rw[Aa,wQ];rfl
 constructor
 ·refine⟨?_,?_,by rw[hs];exact i.low,?_,?_⟩
  ·rintro c (hc|hc)
   ·have:=i.lt c hc;simp;omega
   ·simp;omega
  ·intro c hc;simp at hc;rw[cu,if_neg (by omega),if_neg (by omega)];exact i.top c (by omega)
  ·rintro c y hc hy;rw[cu] at hy;by_cases he:c=h.next
   ·subst he;simp only[if_true,Option.some.injEq] at hy;subst hy;rw[bM];exact hx
   ·rw[if_neg he] at hy;by_cases tZ:c=b
    ·rw[if_pos tZ] at hy;simp at hy
    ·rw[if_neg tZ] at hy;have hdc:D c:=kC hc he;rw[ga c hdc];exact bR (i.bH c y hdc hy) (fun _=>.inl) ga (hr _ fun e=>i.apart b c hd hdc (fun e=>tZ e.symm) gp (by rw[hy];simp) e.symm)
  ·intro c c' hc jC hne hw hg;rw[A8] at hw;rw[cu] at hg;have key:∀x,x≠h.next→x≠b→grow D h.next (h.next+1) x→h.get x≠none→(ρ b).bH≠(ρ x).bH∧D x:=by
    intro x hx1 hx2 hx3 hx4;have T5:D x:=kC hx3 hx1;exact⟨i.apart b x hd T5 (fun e=>hx2 e.symm) gp hx4,T5⟩
   by_cases he:c=h.next
   ·subst he;have RX:c'≠h.next:=fun e=>hne e.symm;rw[if_neg RX] at hg;by_cases tZ:c'=b
    ·rw[if_pos tZ] at hg;simp at hg
    ·rw[if_neg tZ] at hg;have:=key c' RX tZ jC hg;rw[bM,ga c' this.2,hL];exact this.1
   ·rw[if_neg he] at hw;by_cases tZ:c=b
    ·rw[if_pos tZ] at hw;simp at hw
    ·rw[if_neg tZ] at hw;have hk:=key c he tZ hc (Heap.eu hw);rw[ga c hk.2];by_cases he':c'=h.next
     ·subst he';rw[bM,hL];exact fun e=>hk.1 e.symm
     ·rw[if_neg he'] at hg;by_cases EU:c'=b
      ·rw[if_pos EU] at hg;simp at hg
      ·rw[if_neg EU] at hg;have hk':=key c' he' EU jC hg;rw[ga c' hk'.2];exact i.apart c c' hk.2 hk'.2 hne hw hg
 ·refine⟨by simp,ga,by omega,?_,?_,?_,?_,ht,hos,ho⟩
  ·intro r _ hb;exact hr r (fun e=>hb b hd gp e.symm)
  ·intro c hc hdc;rw[cu,if_neg (by omega),if_neg (fun(e:c=b)=>hdc (by rw[e];exact hd))]
  ·intro c hc hn;rw[cu,if_neg (by omega)] at hn;rw[A8,if_neg (by omega)];by_cases tZ:c=b
   ·rw[if_pos tZ] at hn;simp at hn
   ·rw[if_neg tZ] at hn⊢;exact⟨hn,id⟩
  ·intro c h1 h2;simp at h2;have:c=h.next:=by omega
   subst this;rw[bM];exact .inr ⟨b,hd,gp,hL.symm⟩
theorem wK(i:Inv P H0 ρ D h w){b:Nat}{PN:List AV}{NP:Nat}(AW:h.get b=some (.cells PN true NP))(vs:List AV)(es:Nat)(L:Loc)(hL:L.bH=(ρ b).bH∨w.heap.size≤L.bH)(hd:D b)
  (hs:w.heap.size≤w'.heap.size)(hr:∀r,r<w.heap.size→r≠(ρ b).bH→w'.heap[r]?=w.heap[r]?)(ht:w'.tape=w.tape)(hos:w'.os=w.os)(ho:w'.output=w.output)
  (hb:ei P H0 (j5 ρ h.next L) (grow D h.next (h.next+1)) (ρ b) (.cells PN false NP) w')
  (hx:ei P H0 (j5 ρ h.next L) (grow D h.next (h.next+1)) L (.cells vs false es) w'):
  Inv P H0 (j5 ρ h.next L) (grow D h.next (h.next+1)) ((h.set b (.cells PN false NP)).new (.cells vs false es)) w'∧
  Ext ρ D h w (j5 ρ h.next L) ((h.set b (.cells PN false NP)).new (.cells vs false es)) w':=by
 have Xy:=i.lt b hd;have gp:h.wr b=true:=by simp[Heap.wr,AW]
 have ga:∀c,D c→j5 ρ h.next L c=ρ c:=fun c hc=>jI _ _ (by have:=i.lt c hc;omega);have cu:∀c,((h.set b (.cells PN false NP)).new (.cells vs false es)).get c=if c=h.next then some (.cells vs false es) else if c=b then some (.cells PN false NP) else h.get c:=by
  intro c;rw[Heap.bT,Heap.aT];rfl
 have A8:∀c,((h.set b (.cells PN false NP)).new (.cells vs false es)).wr c=if c=h.next then false else if c=b then false else h.wr c:=by
  intro c;rw[Aa,IP];rfl
 constructor
 ·refine⟨?_,?_,Nat.le_trans i.low hs,?_,?_⟩
  ·rintro c (hc|hc)
   ·have:=i.lt c hc;simp;omega
   ·simp;omega
  ·intro c hc;simp at hc;rw[cu,if_neg (by omega),if_neg (by omega)];exact i.top c (by omega)
  ·rintro c y hc hy;rw[cu] at hy;by_cases he:c=h.next
   ·subst he;simp only[if_true,Option.some.injEq] at hy;subst hy;rw[bM];exact hx
   ·rw[if_neg he] at hy;have hdc:D c:=kC hc he;rw[ga c hdc];by_cases tZ:c=b
    ·subst tZ;rw[if_pos rfl] at hy;simp only[Option.some.injEq] at hy;subst hy;exact hb
    ·rw[if_neg tZ] at hy;have Cy:=i.bH c y hdc hy;exact bR Cy (fun _=>.inl) ga (hr _ (gy Cy) fun e=>i.apart b c hd hdc (fun e=>tZ e.symm) gp (by rw[hy];simp) e.symm)
  ·intro c c' hc jC hne hw hg;rw[A8] at hw;rw[cu] at hg;by_cases he:c=h.next
   ·rw[if_pos he] at hw;simp at hw
   ·rw[if_neg he] at hw;by_cases tZ:c=b
    ·rw[if_pos tZ] at hw;simp at hw
    ·rw[if_neg tZ] at hw;have hdc:D c:=kC hc he;have hcb:=i.apart c b hdc hd tZ hw (by rw[AW];simp);rw[ga c hdc];by_cases he':c'=h.next
     ·subst he';rw[bM];rcases hL with hL|hL
      ·rw[hL];exact hcb
      ·have:=i.J3 hdc (Heap.eu hw);omega
     ·rw[if_neg he'] at hg;have Ry:D c':=kC jC he';rw[ga c' Ry];by_cases EU:c'=b
      ·subst EU;exact hcb
      ·rw[if_neg EU] at hg;exact i.apart c c' hdc Ry hne hw hg
 ·refine⟨by simp,ga,hs,?_,?_,?_,?_,ht,hos,ho⟩
  ·intro r hlt hn;exact hr r hlt (fun e=>hn b hd gp e.symm)
  ·intro c hc hdc;rw[cu,if_neg (by omega),if_neg (fun(e:c=b)=>hdc (by rw[e];exact hd))]
  ·intro c hc hn;rw[cu,if_neg (by omega)] at hn;rw[A8,if_neg (by omega)];by_cases tZ:c=b
   ·rw[if_pos tZ];subst tZ;exact⟨by rw[AW];simp,fun e=>by simp at e⟩
   ·rw[if_neg tZ] at hn⊢;exact⟨hn,id⟩
  ·intro c h1 h2;simp at h2;have:c=h.next:=by omega
   subst this;rw[bM];rcases hL with hL|hL
   ·exact .inr ⟨b,hd,gp,hL.symm⟩
   ·exact .inl hL
end
end Ads
end Go.Proofs.YtmnolnoeibhjgaaGreat
