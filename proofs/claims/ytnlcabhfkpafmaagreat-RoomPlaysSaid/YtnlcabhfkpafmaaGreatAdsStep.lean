/-
  Single steps on the heap: a new block, a store, a slice that is appended to where it lies; loads and stores as the model runs them.
-/
import Derived.Test.YtnlcabhfkpafmaaGreatAdsReal
namespace Go.Proofs.YtnlcabhfkpafmaaGreat
namespace Ads
namespace Heap
theorem er{α:Type}:∀(l:List α) (o:Nat),splice l o []=l
 |[],0=>rfl
 |[],_+1=>rfl
 |_::_,0=>rfl
 |v::vs,o+1=>by simp[splice,er vs o]
theorem pE{α:Type}:∀(l:List α) (o:Nat) (x:α) (xs:List α),o<l.length→splice l o (x::xs)=splice (l.set o x) (o+1) xs
 |[],o,x,xs,h=>by simp at h
 |v::vs,0,x,xs,_=>by simp[splice]
 |v::vs,o+1,x,xs,h=>by
  simp only[splice,List.set_cons_succ];rw[pE vs o x xs (by simpa using h)]
theorem rL{α β:Type}(f:α→β):∀(l:List α) (o:Nat) (xs:List α),(splice l o xs).map f=splice (l.map f) o (xs.map f)
 |[],0,[]=>rfl
 |[],0,_::_=>rfl
 |[],_+1,_=>by simp[splice]
 |v::vs,0,[]=>rfl
 |_::vs,0,x::xs=>by simp[splice,rL f vs 0 xs]
 |v::vs,o+1,xs=>by simp[splice,rL f vs o xs]
end Heap
def setRow(w:World)(g:Nat)(o:Obj):World:={w with heap:=w.heap.setIfInBounds g o}
theorem di(w:World)(g:Nat)(o:Obj)(r:Nat):(setRow w g o).heap[r]?=if r=g then(if g<w.heap.size then some o else none) else w.heap[r]?:=by
 simp only[setRow,Array.getElem?_setIfInBounds];by_cases h:g=r
 ·subst h;simp
 ·rw[if_neg h,if_neg (fun e=>h e.symm)]
theorem setRow_self{w:World}{g:Nat}{o:Obj}(h:w.heap[g]?=some o):setRow w g o=w:=by
 have:w.heap.setIfInBounds g o=w.heap:=by
  apply Array.ext_getElem?;intro r;simp only[Array.getElem?_setIfInBounds];split
  ·rename_i e;subst e;rw[h,if_pos (Array.getElem?_eq_some_iff.1 h).1]
  ·rfl
 unfold setRow;rw[this]
theorem setRow_setRow(w:World)(g:Nat)(o o':Obj):setRow (setRow w g o) g o'=setRow w g o':=by
 simp[setRow]
section
variable {P:Program}
theorem jx(g:Nat)(t:TypeId)(fr:Nat×Nat):∀(vs:List Value) (o i:Nat) (c:Array Value) (w:World),w.heap[g]?=some (.cells c t fr)→
  (∀v∈vs,v.oneCell'=true)→o+i+vs.length≤c.size→(∀j,fr.1≤j→j<fr.2→c.size≤j)→
  (storeCells ⟨g,o,none⟩ vs i).run P w=.ok () (setRow w g (.cells (Heap.splice c.toList (o+i) vs).toArray t fr))
 |[],o,i,c,w,hg,_,_,_=>by
  simp only[storeCells,Sem.run_pure,Heap.er];rw[setRow_self (by simpa using hg)]
 |v::vs,o,i,c,w,hg,hv,hl,hf=>by
  have ha:Addr.add ⟨g,o,none⟩ i=⟨g,o+i,none⟩:=by
   unfold Addr.add;split
   ·rename_i e;subst e;rfl
   ·rfl
  have hlt:o+i<c.size:=by simp at hl;omega
  have hc:w.cell? ⟨g,o+i,none⟩=some c[o+i]:=by simp[World.cell?,hg,hlt]
  have hfz:w.frozen? ⟨g,o+i,none⟩=false:=by
   obtain⟨lo,hi⟩:=fr;simp only[World.frozen?,hg];have:=hf (o+i);simp only[decide_eq_false_iff_not,Bool.and_eq_false_iff];by_cases h1:lo≤o+i
   ·by_cases h2:o+i<hi
    ·exact absurd (this h1 h2) (by omega)
    ·exact .inr h2
   ·exact .inl h1
  have iS:w.setCell ⟨g,o+i,none⟩ v=setRow w g (.cells (c.setIfInBounds (o+i) v) t fr):=by
   unfold World.setCell setRow
   congr 1
   apply Array.ext_getElem?;intro r;rw[Array.getElem?_modify,Array.getElem?_setIfInBounds];by_cases hr:g=r
   ·subst hr;obtain⟨Y7,hge⟩:=Array.getElem?_eq_some_iff.1 hg;simp[Y7,hge]
   ·simp[hr]
  unfold storeCells;rw[Sem.run_bind,ha,run_store P w _ v .plain (hv v (List.mem_cons_self ..)),hc];simp only[hfz,Result.andThen,Bool.false_eq_true,if_false];rw[iS];rw[jx g t fr vs o (i+1) (c.setIfInBounds (o+i) v) (setRow w g (.cells (c.setIfInBounds (o+i) v) t fr))
   (by rw[di,if_pos rfl,if_pos (Array.getElem?_eq_some_iff.1 hg).1]) (fun u hu=>hv u (List.mem_cons_of_mem _ hu)) (by simp at hl⊢;omega) (by simpa using hf)]
  rw[setRow_setRow]
  congr 4
  rw[Heap.pE _ _ _ _ (by simpa using hlt),Array.toList_setIfInBounds,Nat.add_assoc]
variable {H0:Nat} {ρ ρ':cE} {D:Dom} {h:Heap} {w w':World}
theorem vI:∀{v:AV},v.flat=true→(real ρ v).oneCell'=true:=by
 intro v hv;cases v<;>simp_all[AV.flat,real,Value.oneCell']
theorem pX:∀{l:List AV},bz l=true→∀v∈l,v.flat=true
 |[],_,v,hv=>by simp at hv
 |x::xs,hl,v,hv=>by
  simp only[bz] at hl;cases hx:x.flat with
  |false=>simp[hx] at hl
  |true=>
   simp only[hx,cond_true] at hl;rcases List.mem_cons.1 hv with e|e
   ·rw[e];exact hx
   ·exact pX hl v e
theorem Ow{b:Nat}{vs:List AV}(hr:h.row b=some vs):∃wr es,h.get b=some (.cells vs wr es):=by
 unfold Heap.row at hr;split at hr
 ·rename_i vs' wr es hg;exact⟨wr,es,by simp at hr;rw[hg,hr]⟩
 ·simp at hr
theorem cell_of(i:Inv P H0 ρ D h w){b o:Nat}{v:AV}(hd:D b)(hl:h.ck b o=some v):w.cell? ⟨(ρ b).bJ,(ρ b).off+o,none⟩=some (real ρ v)∧v.aX D:=by
 unfold Heap.ck at hl;cases hr:h.row b with
 |none=>simp[hr] at hl
 |some vs=>
  simp only[hr] at hl;obtain⟨wr,es,hg⟩:=Ow hr;obtain⟨c,t,fr,hc,h1,_⟩:=i.bJ b _ hd hg;have:=h1 o v hl;exact⟨by simp[World.cell?,hc,this.1],this.2⟩
theorem gN{b o n:Nat}{vs:List AV}(hl:h.aY b o n=some vs):vs.length=n∧∀j v,vs[j]?=some v→h.ck b (o+j)=some v:=by
 unfold Heap.aY at hl;cases hr:h.row b with
 |none=>simp[hr] at hl
 |some xs=>
  simp only[hr] at hl;cases hb:Nat.ble (o+n) xs.length with
  |false=>simp[hb] at hl
  |true=>
   simp only[hb,cond_true,Option.some.injEq] at hl;have hle:=Nat.le_of_ble_eq_true hb;subst hl;refine⟨by simp;omega,fun j v hj=>?_⟩;have hjn:j<n:=by
    have:=(List.getElem?_eq_some_iff.1 hj).1;simp at this;omega
   rw[List.getElem?_take_of_lt hjn,List.getElem?_drop] at hj;simp[Heap.ck,hr,hj]
theorem b9(i:Inv P H0 ρ D h w){b o n:Nat}{vs:List AV}(hd:D b)(hl:h.aY b o n=some vs):
  (loadCells ⟨(ρ b).bJ,(ρ b).off+o,none⟩ n).run P w=.ok (aq ρ vs).toArray w∧bl D vs:=by
 obtain⟨hn,hc⟩:=gN hl;constructor
 ·subst hn;have:=run_loadCells_list (P:=P) w ⟨(ρ b).bJ,(ρ b).off+o,none⟩ (aq ρ vs) (by
   intro j v hj;rw[cG,List.getElem?_map] at hj;cases hv:vs[j]? with
   |none=>simp[hv] at hj
   |some x=>
    simp only[hv,Option.map_some,Option.some.injEq] at hj;have h1:=(cell_of i hd (hc j x hv)).1;have ha:Addr.add ⟨(ρ b).bJ,(ρ b).off+o,none⟩ j=⟨(ρ b).bJ,(ρ b).off+(o+j),none⟩:=by
     unfold Addr.add;split
     ·rename_i e;subst e;rfl
     ·simp[Nat.add_assoc]
    rw[ha,←hj];exact h1)
  rw[cG,List.length_map] at this;rw[cG];exact this
 ·rw[aR];intro v hv;obtain⟨j,hj⟩:=List.mem_iff_getElem?.1 hv;exact(cell_of i hd (hc j v hj)).2
theorem kV{D:Dom}{n b:Nat}(h:grow D n (n+1) b)(hne:b≠n):D b:=by
 rcases h with h|h
 ·exact h
 ·omega
def iw(ρ:cE)(b:Nat)(L:Loc):cE:=fun x=>if x=b then L else ρ x
theorem bO(ρ:cE)(b:Nat)(L:Loc):iw ρ b L b=L:=by simp[iw]
theorem jP(ρ:cE){b x:Nat}(L:Loc)(h:x≠b):iw ρ b L x=ρ x:=by simp[iw,h]
theorem As(x:dD)(b:Nat):(h.new x).wr b=if b=h.next then(match x with|.cells _ wr _=>wr|_=>true) else h.wr b:=by
 unfold Heap.wr;rw[Heap.bW];by_cases hb:b=h.next
 ·simp only[hb,if_true];cases x<;>rfl
 ·simp only[hb,if_false]
theorem KA(c:Nat)(x:dD)(b:Nat):(h.set c x).wr b=if b=c then(match x with|.cells _ wr _=>wr|_=>true) else h.wr b:=by
 unfold Heap.wr;rw[Heap.bS];by_cases hb:b=c
 ·simp only[hb,if_true];cases x<;>rfl
 ·simp only[hb,if_false]
theorem w9(c:Nat)(b:Nat):(h.del c).wr b=if b=c then false else h.wr b:=by
 unfold Heap.wr;rw[Heap.cL];by_cases hb:b=c
 ·simp only[hb,if_true]
 ·simp only[hb,if_false]
theorem pG(i:Inv P H0 ρ D h w)(x:dD)(extra:Nat)(o:Obj)(hh:w'.heap=w.heap.push o)(ht:w'.tape=w.tape)(hos:w'.os=w.os)(ho:w'.output=w.output)
  (hx:eC P H0 (iw ρ h.next ⟨w.heap.size,0,extra⟩) (grow D h.next (h.next+1)) ⟨w.heap.size,0,extra⟩ x w'):
  Inv P H0 (iw ρ h.next ⟨w.heap.size,0,extra⟩) (grow D h.next (h.next+1)) (h.new x) w'∧
  Ext ρ D h w (iw ρ h.next ⟨w.heap.size,0,extra⟩) (h.new x) w':=by
 have gL:∀b,D b→iw ρ h.next ⟨w.heap.size,0,extra⟩ b=ρ b:=fun b hb=>jP _ _ (by have:=i.lt b hb;omega);have hold:∀r,r<w.heap.size→w'.heap[r]?=w.heap[r]?:=by
  intro r hr;rw[hh,Array.getElem?_push];rw[if_neg (by omega)]
 constructor
 ·refine⟨?_,?_,?_,?_,?_⟩
  ·rintro b (hb|hb)
   ·have:=i.lt b hb;simp;omega
   ·simp;omega
  ·intro b hb;simp at hb;rw[Heap.bW,if_neg (by omega)];exact i.top b (by omega)
  ·rw[hh];simp;have:=i.low;omega
  ·rintro b y hb hy;rw[Heap.bW] at hy;by_cases he:b=h.next
   ·subst he;simp only[if_true,Option.some.injEq] at hy;subst hy;rw[bO];exact hx
   ·rw[if_neg he] at hy;have hdb:D b:=kV hb he;have q7:=i.bJ b y hdb hy;rw[gL b hdb];exact bP q7 (fun _=>.inl) gL (hold _ (gF q7))
  ·intro b b' hb hb' hne iK cP;rw[As] at iK;rw[Heap.bW] at cP;by_cases he:b=h.next
   ·subst he;rw[bO];have kM:b'≠h.next:=fun e=>hne e.symm;rw[if_neg kM] at cP;have hdb:D b':=kV hb' kM;rw[gL b' hdb];have:=i.NJ hdb cP;simp only;omega
   ·rw[if_neg he] at iK;have hdb:D b:=kV hb he;rw[gL b hdb];by_cases he':b'=h.next
    ·subst he';rw[bO];have:=i.NJ hdb (Heap.eT iK);simp only;omega
    ·rw[if_neg he'] at cP;have TS:D b':=kV hb' he';rw[gL b' TS];exact i.apart b b' hdb TS hne iK cP
 ·refine⟨by simp,gL,by rw[hh];simp,fun r hr _=>hold r hr,?_,?_,?_,ht,hos,ho⟩
  ·intro b hb _;rw[Heap.bW,if_neg (by omega)]
  ·intro b hb hn;rw[Heap.bW,if_neg (by omega)] at hn;rw[As,if_neg (by omega)];exact⟨hn,id⟩
  ·intro b h1 h2;simp at h2;have:b=h.next:=by omega
   subst this;rw[bO];exact .inl (Nat.le_refl _)
theorem pH(i:Inv P H0 ρ D h w){b:Nat}{x:dD}(hd:D b)(iK:h.wr b=true)(hxw:(match x with|.cells _ wr _=>wr|_=>true)=true)
  (hs:w'.heap.size=w.heap.size)(hr:∀r,r≠(ρ b).bJ→w'.heap[r]?=w.heap[r]?)(ht:w'.tape=w.tape)(hos:w'.os=w.os)(ho:w'.output=w.output)
  (hx:eC P H0 ρ D (ρ b) x w'):Inv P H0 ρ D (h.set b x) w'∧Ext ρ D h w ρ (h.set b x) w':=by
 have hsome:=Heap.eT iK;have Bt:∀c,(h.set b x).wr c=h.wr c:=by
  intro c;rw[KA];by_cases he:c=b
  ·subst he;rw[if_pos rfl,hxw,iK]
  ·rw[if_neg he]
 constructor
 ·refine⟨i.lt,?_,by rw[hs];exact i.low,?_,?_⟩
  ·intro c hc;rw[Heap.bS,if_neg (by have:=i.lt b hd;simp at hc;omega)];exact i.top c hc
  ·intro c y hdc hy;rw[Heap.bS] at hy;by_cases he:c=b
   ·subst he;simp only[if_true,Option.some.injEq] at hy;subst hy;exact hx
   ·rw[if_neg he] at hy;refine bP (i.bJ c y hdc hy) (fun _=>id) (fun _ _=>rfl) (hr _ ?_);exact fun e=>i.apart b c hd hdc (fun e=>he e.symm) iK (by rw[hy];simp) e.symm
  ·intro c c' hc fV hne hw hg;rw[Bt] at hw;rw[Heap.bS] at hg;refine i.apart c c' hc fV hne hw ?_;by_cases he:c'=b
   ·subst he;exact hsome
   ·rw[if_neg he] at hg;exact hg
 ·refine⟨by simp,fun _ _=>rfl,by omega,?_,?_,?_,fun _ h1 h2=>by simp at h2;omega,ht,hos,ho⟩
  ·intro r _ hb;exact hr r (fun e=>hb b hd iK e.symm)
  ·intro c _ hdc;rw[Heap.bS,if_neg (fun(e:c=b)=>hdc (by rw[e];exact hd))]
  ·intro c _ hn;rw[Bt];refine⟨?_,id⟩;rw[Heap.bS] at hn;by_cases he:c=b
   ·subst he;exact hsome
   ·rw[if_neg he] at hn;exact hn
theorem Kp(i:Inv P H0 ρ D h w){b:Nat}(hd:D b):Inv P H0 ρ D (h.del b) w∧Ext ρ D h w ρ (h.del b) w:=by
 constructor
 ·refine⟨i.lt,fun c hc=>?_,i.low,fun c x hdc hx=>?_,fun c c' hc fV hne hw hg=>?_⟩
  ·rw[Heap.cL];split
   ·rfl
   ·exact i.top c hc
  ·rw[Heap.cL] at hx;split at hx
   ·simp at hx
   ·exact i.bJ c x hdc hx
  ·rw[w9] at hw;rw[Heap.cL] at hg;split at hw
   ·simp at hw
   ·split at hg
    ·simp at hg
    ·exact i.apart c c' hc fV hne hw hg
 ·refine⟨by simp,fun _ _=>rfl,Nat.le_refl _,fun _ _ _=>rfl,fun c _ hdc=>?_,fun c _ hn=>?_,fun _ h1 h2=>by simp at h2;omega,rfl,rfl,rfl⟩
  ·rw[Heap.cL,if_neg (fun(e:c=b)=>hdc (by rw[e];exact hd))]
  ·rw[Heap.cL] at hn;rw[w9];split at hn
   ·simp at hn
   ·rename_i he;rw[if_neg he];exact⟨hn,id⟩
theorem GG(i:Inv P H0 ρ D h w){b:Nat}(vs:List AV)(es:Nat)(L:Loc)(hL:L.bJ=(ρ b).bJ)(hd:D b)(iK:h.wr b=true)
  (hs:w'.heap.size=w.heap.size)(hr:∀r,r≠(ρ b).bJ→w'.heap[r]?=w.heap[r]?)(ht:w'.tape=w.tape)(hos:w'.os=w.os)(ho:w'.output=w.output)
  (hx:eC P H0 (iw ρ h.next L) (grow D h.next (h.next+1)) L (.cells vs true es) w'):
  Inv P H0 (iw ρ h.next L) (grow D h.next (h.next+1)) ((h.del b).new (.cells vs true es)) w'∧
  Ext ρ D h w (iw ρ h.next L) ((h.del b).new (.cells vs true es)) w':=by
 have YN:=i.lt b hd;have gL:∀c,D c→iw ρ h.next L c=ρ c:=fun c hc=>jP _ _ (by have:=i.lt c hc;omega);have cP:∀c,((h.del b).new (.cells vs true es)).get c=if c=h.next then some (.cells vs true es) else if c=b then none else h.get c:=by
  intro c;rw[Heap.bW,Heap.cL];rfl
 have Bt:∀c,((h.del b).new (.cells vs true es)).wr c=if c=h.next then true else if c=b then false else h.wr c:=by
  intro c;rw[As,w9];rfl
 constructor
 ·refine⟨?_,?_,by rw[hs];exact i.low,?_,?_⟩
  ·rintro c (hc|hc)
   ·have:=i.lt c hc;simp;omega
   ·simp;omega
  ·intro c hc;simp at hc;rw[cP,if_neg (by omega),if_neg (by omega)];exact i.top c (by omega)
  ·rintro c y hc hy;rw[cP] at hy;by_cases he:c=h.next
   ·subst he;simp only[if_true,Option.some.injEq] at hy;subst hy;rw[bO];exact hx
   ·rw[if_neg he] at hy;by_cases sX:c=b
    ·rw[if_pos sX] at hy;simp at hy
    ·rw[if_neg sX] at hy;have hdc:D c:=kV hc he;rw[gL c hdc];exact bP (i.bJ c y hdc hy) (fun _=>.inl) gL (hr _ fun e=>i.apart b c hd hdc (fun e=>sX e.symm) iK (by rw[hy];simp) e.symm)
  ·intro c c' hc fV hne hw hg;rw[Bt] at hw;rw[cP] at hg;have key:∀x,x≠h.next→x≠b→grow D h.next (h.next+1) x→h.get x≠none→(ρ b).bJ≠(ρ x).bJ∧D x:=by
    intro x hx1 hx2 hx3 hx4;have SL:D x:=kV hx3 hx1;exact⟨i.apart b x hd SL (fun e=>hx2 e.symm) iK hx4,SL⟩
   by_cases he:c=h.next
   ·subst he;have T9:c'≠h.next:=fun e=>hne e.symm;rw[if_neg T9] at hg;by_cases sX:c'=b
    ·rw[if_pos sX] at hg;simp at hg
    ·rw[if_neg sX] at hg;have:=key c' T9 sX fV hg;rw[bO,gL c' this.2,hL];exact this.1
   ·rw[if_neg he] at hw;by_cases sX:c=b
    ·rw[if_pos sX] at hw;simp at hw
    ·rw[if_neg sX] at hw;have hk:=key c he sX hc (Heap.eT hw);rw[gL c hk.2];by_cases he':c'=h.next
     ·subst he';rw[bO,hL];exact fun e=>hk.1 e.symm
     ·rw[if_neg he'] at hg;by_cases FM:c'=b
      ·rw[if_pos FM] at hg;simp at hg
      ·rw[if_neg FM] at hg;have hk':=key c' he' FM fV hg;rw[gL c' hk'.2];exact i.apart c c' hk.2 hk'.2 hne hw hg
 ·refine⟨by simp,gL,by omega,?_,?_,?_,?_,ht,hos,ho⟩
  ·intro r _ hb;exact hr r (fun e=>hb b hd iK e.symm)
  ·intro c hc hdc;rw[cP,if_neg (by omega),if_neg (fun(e:c=b)=>hdc (by rw[e];exact hd))]
  ·intro c hc hn;rw[cP,if_neg (by omega)] at hn;rw[Bt,if_neg (by omega)];by_cases sX:c=b
   ·rw[if_pos sX] at hn;simp at hn
   ·rw[if_neg sX] at hn⊢;exact⟨hn,id⟩
  ·intro c h1 h2;simp at h2;have:c=h.next:=by omega
   subst this;rw[bO];exact .inr ⟨b,hd,iK,hL.symm⟩
theorem wX(i:Inv P H0 ρ D h w){b:Nat}{Sv:List AV}{Qs:Nat}(Bh:h.get b=some (.cells Sv true Qs))(vs:List AV)(es:Nat)(L:Loc)(hL:L.bJ=(ρ b).bJ∨w.heap.size≤L.bJ)(hd:D b)
  (hs:w.heap.size≤w'.heap.size)(hr:∀r,r<w.heap.size→r≠(ρ b).bJ→w'.heap[r]?=w.heap[r]?)(ht:w'.tape=w.tape)(hos:w'.os=w.os)(ho:w'.output=w.output)
  (hb:eC P H0 (iw ρ h.next L) (grow D h.next (h.next+1)) (ρ b) (.cells Sv false Qs) w')
  (hx:eC P H0 (iw ρ h.next L) (grow D h.next (h.next+1)) L (.cells vs false es) w'):
  Inv P H0 (iw ρ h.next L) (grow D h.next (h.next+1)) ((h.set b (.cells Sv false Qs)).new (.cells vs false es)) w'∧
  Ext ρ D h w (iw ρ h.next L) ((h.set b (.cells Sv false Qs)).new (.cells vs false es)) w':=by
 have YN:=i.lt b hd;have iK:h.wr b=true:=by simp[Heap.wr,Bh]
 have gL:∀c,D c→iw ρ h.next L c=ρ c:=fun c hc=>jP _ _ (by have:=i.lt c hc;omega);have cP:∀c,((h.set b (.cells Sv false Qs)).new (.cells vs false es)).get c=if c=h.next then some (.cells vs false es) else if c=b then some (.cells Sv false Qs) else h.get c:=by
  intro c;rw[Heap.bW,Heap.bS];rfl
 have Bt:∀c,((h.set b (.cells Sv false Qs)).new (.cells vs false es)).wr c=if c=h.next then false else if c=b then false else h.wr c:=by
  intro c;rw[As,KA];rfl
 constructor
 ·refine⟨?_,?_,Nat.le_trans i.low hs,?_,?_⟩
  ·rintro c (hc|hc)
   ·have:=i.lt c hc;simp;omega
   ·simp;omega
  ·intro c hc;simp at hc;rw[cP,if_neg (by omega),if_neg (by omega)];exact i.top c (by omega)
  ·rintro c y hc hy;rw[cP] at hy;by_cases he:c=h.next
   ·subst he;simp only[if_true,Option.some.injEq] at hy;subst hy;rw[bO];exact hx
   ·rw[if_neg he] at hy;have hdc:D c:=kV hc he;rw[gL c hdc];by_cases sX:c=b
    ·subst sX;rw[if_pos rfl] at hy;simp only[Option.some.injEq] at hy;subst hy;exact hb
    ·rw[if_neg sX] at hy;have CW:=i.bJ c y hdc hy;exact bP CW (fun _=>.inl) gL (hr _ (gF CW) fun e=>i.apart b c hd hdc (fun e=>sX e.symm) iK (by rw[hy];simp) e.symm)
  ·intro c c' hc fV hne hw hg;rw[Bt] at hw;rw[cP] at hg;by_cases he:c=h.next
   ·rw[if_pos he] at hw;simp at hw
   ·rw[if_neg he] at hw;by_cases sX:c=b
    ·rw[if_pos sX] at hw;simp at hw
    ·rw[if_neg sX] at hw;have hdc:D c:=kV hc he;have hcb:=i.apart c b hdc hd sX hw (by rw[Bh];simp);rw[gL c hdc];by_cases he':c'=h.next
     ·subst he';rw[bO];rcases hL with hL|hL
      ·rw[hL];exact hcb
      ·have:=i.NJ hdc (Heap.eT hw);omega
     ·rw[if_neg he'] at hg;have TT:D c':=kV fV he';rw[gL c' TT];by_cases FM:c'=b
      ·subst FM;exact hcb
      ·rw[if_neg FM] at hg;exact i.apart c c' hdc TT hne hw hg
 ·refine⟨by simp,gL,hs,?_,?_,?_,?_,ht,hos,ho⟩
  ·intro r hlt hn;exact hr r hlt (fun e=>hn b hd iK e.symm)
  ·intro c hc hdc;rw[cP,if_neg (by omega),if_neg (fun(e:c=b)=>hdc (by rw[e];exact hd))]
  ·intro c hc hn;rw[cP,if_neg (by omega)] at hn;rw[Bt,if_neg (by omega)];by_cases sX:c=b
   ·rw[if_pos sX];subst sX;exact⟨by rw[Bh];simp,fun e=>by simp at e⟩
   ·rw[if_neg sX] at hn⊢;exact⟨hn,id⟩
  ·intro c h1 h2;simp at h2;have:c=h.next:=by omega
   subst this;rw[bO];rcases hL with hL|hL
   ·exact .inr ⟨b,hd,iK,hL.symm⟩
   ·exact .inl hL
end
end Ads
end Go.Proofs.YtnlcabhfkpafmaaGreat
