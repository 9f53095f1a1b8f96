/-
  Single steps on the heap: a new block, a store, a slice that is appended to where it lies; loads and stores as the model runs them.
-/
import Derived.Test.YtepdklcpagielaaAdsReal
namespace Go.Proofs.Ytepdklcpagielaa
namespace Ads
namespace Heap
theorem c8{α:Type}:∀(l:List α) (o:Nat),splice l o []=l
 |[],0=>rfl
 |[],_+1=>rfl
 |_::_,0=>rfl
 |v::vs,o+1=>by simp[splice,c8 vs o]
theorem si{α:Type}:∀(l:List α) (o:Nat) (x:α) (xs:List α),o<l.length→splice l o (x::xs)=splice (l.set o x) (o+1) xs
 |[],o,x,xs,h=>by simp at h
 |v::vs,0,x,xs,_=>by simp[splice]
 |v::vs,o+1,x,xs,h=>by
  simp only[splice,List.set_cons_succ];rw[si vs o x xs (by simpa using h)]
theorem uG{α β:Type}(f:α→β):∀(l:List α) (o:Nat) (xs:List α),(splice l o xs).map f=splice (l.map f) o (xs.map f)
 |[],0,[]=>rfl
 |[],0,_::_=>rfl
 |[],_+1,_=>by simp[splice]
 |v::vs,0,[]=>rfl
 |_::vs,0,x::xs=>by simp[splice,uG f vs 0 xs]
 |v::vs,o+1,xs=>by simp[splice,uG f vs o xs]
end Heap
def setRow(w:World)(g:Nat)(o:Obj):World:={w with heap:=w.heap.setIfInBounds g o}
theorem ef(w:World)(g:Nat)(o:Obj)(r:Nat):(setRow w g o).heap[r]?=if r=g then(if g<w.heap.size then some o else none) else w.heap[r]?:=by
 simp only[setRow,Array.getElem?_setIfInBounds];by_cases h:g=r
 ·subst h;simp
 ·rw[if_neg h,if_neg (fun e=>h e.symm)]
theorem setRow_self{w:World}{g:Nat}{o:Obj}(h:w.heap[g]?=some o):setRow w g o=w:=by
 have:w.heap.setIfInBounds g o=w.heap:=by
  apply Array.ext_getElem?;intro r;simp only[Array.getElem?_setIfInBounds];split
  ·rename_i e;subst e;rw[h,if_pos (Array.getElem?_eq_some_iff.1 h).1]
  ·rfl
 unfold setRow;rw[this]
theorem setRow_setRow(w:World)(g:Nat)(o o':Obj):setRow (setRow w g o) g o'=setRow w g o':=by
 simp[setRow]
section
variable {P:Program}
theorem kJ(g:Nat)(t:TypeId)(fr:Nat×Nat):∀(vs:List Value) (o i:Nat) (c:Array Value) (w:World),w.heap[g]?=some (.cells c t fr)→
  (∀v∈vs,v.oneCell'=true)→o+i+vs.length≤c.size→(∀j,fr.1≤j→j<fr.2→c.size≤j)→
  (storeCells ⟨g,o,none⟩ vs i).run P w=.ok () (setRow w g (.cells (Heap.splice c.toList (o+i) vs).toArray t fr))
 |[],o,i,c,w,hg,_,_,_=>by
  simp only[storeCells,Sem.run_pure,Heap.c8];rw[setRow_self (by simpa using hg)]
 |v::vs,o,i,c,w,hg,hv,hl,hf=>by
  have ha:Addr.add ⟨g,o,none⟩ i=⟨g,o+i,none⟩:=by
   unfold Addr.add;split
   ·rename_i e;subst e;rfl
   ·rfl
  have hlt:o+i<c.size:=by simp at hl;omega
  have hc:w.cell? ⟨g,o+i,none⟩=some c[o+i]:=by simp[World.cell?,hg,hlt]
  have hfz:w.frozen? ⟨g,o+i,none⟩=false:=by
   obtain⟨lo,hi⟩:=fr;simp only[World.frozen?,hg];have:=hf (o+i);simp only[decide_eq_false_iff_not,Bool.and_eq_false_iff];by_cases h1:lo≤o+i
   ·by_cases h2:o+i<hi
    ·exact absurd (this h1 h2) (by omega)
    ·exact .inr h2
   ·exact .inl h1
  have gB:w.setCell ⟨g,o+i,none⟩ v=setRow w g (.cells (c.setIfInBounds (o+i) v) t fr):=by
   unfold World.setCell setRow
   congr 1
   apply Array.ext_getElem?;intro r;rw[Array.getElem?_modify,Array.getElem?_setIfInBounds];by_cases hr:g=r
   ·subst hr;obtain⟨abF,hge⟩:=Array.getElem?_eq_some_iff.1 hg;simp[abF,hge]
   ·simp[hr]
  unfold storeCells;rw[Sem.run_bind,ha,run_store P w _ v .plain (hv v (List.mem_cons_self ..)),hc];simp only[hfz,Result.andThen,Bool.false_eq_true,if_false];rw[gB];rw[kJ g t fr vs o (i+1) (c.setIfInBounds (o+i) v) (setRow w g (.cells (c.setIfInBounds (o+i) v) t fr))
   (by rw[ef,if_pos rfl,if_pos (Array.getElem?_eq_some_iff.1 hg).1]) (fun u hu=>hv u (List.mem_cons_of_mem _ hu)) (by simp at hl⊢;omega) (by simpa using hf)]
  rw[setRow_setRow]
  congr 4
  rw[Heap.si _ _ _ _ (by simpa using hlt),Array.toList_setIfInBounds,Nat.add_assoc]
variable {H0:Nat} {ρ ρ':de} {D:Dom} {h:Heap} {w w':World}
theorem yI:∀{v:AV},v.flat=true→(real ρ v).oneCell'=true:=by
 intro v hv;cases v<;>simp_all[AV.flat,real,Value.oneCell']
theorem sQ:∀{l:List AV},bx l=true→∀v∈l,v.flat=true
 |[],_,v,hv=>by simp at hv
 |x::xs,hl,v,hv=>by
  simp only[bx] at hl;cases hx:x.flat with
  |false=>simp[hx] at hl
  |true=>
   simp only[hx,cond_true] at hl;rcases List.mem_cons.1 hv with e|e
   ·rw[e];exact hx
   ·exact sQ hl v e
theorem P9{b:Nat}{vs:List AV}(hr:h.row b=some vs):∃wr es,h.get b=some (.cells vs wr es):=by
 unfold Heap.row at hr;split at hr
 ·rename_i vs' wr es hg;exact⟨wr,es,by simp at hr;rw[hg,hr]⟩
 ·simp at hr
theorem cell_of(i:Inv P H0 ρ D h w){b o:Nat}{v:AV}(hd:D b)(hl:h.bC b o=some v):w.cell? ⟨(ρ b).cj,(ρ b).off+o,none⟩=some (real ρ v)∧v.bq D:=by
 unfold Heap.bC at hl;cases hr:h.row b with
 |none=>simp[hr] at hl
 |some vs=>
  simp only[hr] at hl;obtain⟨wr,es,hg⟩:=P9 hr;obtain⟨c,t,fr,hc,h1,_⟩:=i.cj b _ hd hg;have:=h1 o v hl;exact⟨by simp[World.cell?,hc,this.1],this.2⟩
theorem iR{b o n:Nat}{vs:List AV}(hl:h.bn b o n=some vs):vs.length=n∧∀j v,vs[j]?=some v→h.bC b (o+j)=some v:=by
 unfold Heap.bn at hl;cases hr:h.row b with
 |none=>simp[hr] at hl
 |some xs=>
  simp only[hr] at hl;cases hb:Nat.ble (o+n) xs.length with
  |false=>simp[hb] at hl
  |true=>
   simp only[hb,cond_true,Option.some.injEq] at hl;have hle:=Nat.le_of_ble_eq_true hb;subst hl;refine⟨by simp;omega,fun j v hj=>?_⟩;have hjn:j<n:=by
    have:=(List.getElem?_eq_some_iff.1 hj).1;simp at this;omega
   rw[List.getElem?_take_of_lt hjn,List.getElem?_drop] at hj;simp[Heap.bC,hr,hj]
theorem cM(i:Inv P H0 ρ D h w){b o n:Nat}{vs:List AV}(hd:D b)(hl:h.bn b o n=some vs):
  (loadCells ⟨(ρ b).cj,(ρ b).off+o,none⟩ n).run P w=.ok (aA ρ vs).toArray w∧bE D vs:=by
 obtain⟨hn,hc⟩:=iR hl;constructor
 ·subst hn;have:=run_loadCells_list (P:=P) w ⟨(ρ b).cj,(ρ b).off+o,none⟩ (aA ρ vs) (by
   intro j v hj;rw[dj,List.getElem?_map] at hj;cases hv:vs[j]? with
   |none=>simp[hv] at hj
   |some x=>
    simp only[hv,Option.map_some,Option.some.injEq] at hj;have h1:=(cell_of i hd (hc j x hv)).1;have ha:Addr.add ⟨(ρ b).cj,(ρ b).off+o,none⟩ j=⟨(ρ b).cj,(ρ b).off+(o+j),none⟩:=by
     unfold Addr.add;split
     ·rename_i e;subst e;rfl
     ·simp[Nat.add_assoc]
    rw[ha,←hj];exact h1)
  rw[dj,List.length_map] at this;rw[dj];exact this
 ·rw[aV];intro v hv;obtain⟨j,hj⟩:=List.mem_iff_getElem?.1 hv;exact(cell_of i hd (hc j v hj)).2
theorem mY{D:Dom}{n b:Nat}(h:grow D n (n+1) b)(hne:b≠n):D b:=by
 rcases h with h|h
 ·exact h
 ·omega
def mL(ρ:de)(b:Nat)(L:Loc):de:=fun x=>if x=b then L else ρ x
theorem cw(ρ:de)(b:Nat)(L:Loc):mL ρ b L b=L:=by simp[mL]
theorem lJ(ρ:de){b x:Nat}(L:Loc)(h:x≠b):mL ρ b L x=ρ x:=by simp[mL,h]
theorem Db(x:dm)(b:Nat):(h.new x).wr b=if b=h.next then(match x with|.cells _ wr _=>wr|_=>true) else h.wr b:=by
 unfold Heap.wr;rw[Heap.cB];by_cases hb:b=h.next
 ·simp only[hb,if_true];cases x<;>rfl
 ·simp only[hb,if_false]
theorem Nm(c:Nat)(x:dm)(b:Nat):(h.set c x).wr b=if b=c then(match x with|.cells _ wr _=>wr|_=>true) else h.wr b:=by
 unfold Heap.wr;rw[Heap.bP];by_cases hb:b=c
 ·simp only[hb,if_true];cases x<;>rfl
 ·simp only[hb,if_false]
theorem Af(c:Nat)(b:Nat):(h.del c).wr b=if b=c then false else h.wr b:=by
 unfold Heap.wr;rw[Heap.dn];by_cases hb:b=c
 ·simp only[hb,if_true]
 ·simp only[hb,if_false]
theorem sq(i:Inv P H0 ρ D h w)(x:dm)(extra:Nat)(o:Obj)(hh:w'.heap=w.heap.push o)(ht:w'.tape=w.tape)(hos:w'.os=w.os)(ho:w'.output=w.output)
  (hx:fu P H0 (mL ρ h.next ⟨w.heap.size,0,extra⟩) (grow D h.next (h.next+1)) ⟨w.heap.size,0,extra⟩ x w'):
  Inv P H0 (mL ρ h.next ⟨w.heap.size,0,extra⟩) (grow D h.next (h.next+1)) (h.new x) w'∧
  Ext ρ D h w (mL ρ h.next ⟨w.heap.size,0,extra⟩) (h.new x) w':=by
 have iC:∀b,D b→mL ρ h.next ⟨w.heap.size,0,extra⟩ b=ρ b:=fun b hb=>lJ _ _ (by have:=i.lt b hb;omega);have hold:∀r,r<w.heap.size→w'.heap[r]?=w.heap[r]?:=by
  intro r hr;rw[hh,Array.getElem?_push];rw[if_neg (by omega)]
 constructor
 ·refine⟨?_,?_,?_,?_,?_⟩
  ·rintro b (hb|hb)
   ·have:=i.lt b hb;simp;omega
   ·simp;omega
  ·intro b hb;simp at hb;rw[Heap.cB,if_neg (by omega)];exact i.top b (by omega)
  ·rw[hh];simp;have:=i.low;omega
  ·rintro b y hb hy;rw[Heap.cB] at hy;by_cases he:b=h.next
   ·subst he;simp only[if_true,Option.some.injEq] at hy;subst hy;rw[cw];exact hx
   ·rw[if_neg he] at hy;have hdb:D b:=mY hb he;have ox:=i.cj b y hdb hy;rw[iC b hdb];exact cA ox (fun _=>.inl) iC (hold _ (iM ox))
  ·intro b b' hb hb' hne jN cS;rw[Db] at jN;rw[Heap.cB] at cS;by_cases he:b=h.next
   ·subst he;rw[cw];have iH:b'≠h.next:=fun e=>hne e.symm;rw[if_neg iH] at cS;have hdb:D b':=mY hb' iH;rw[iC b' hdb];have:=i.PD hdb cS;simp only;omega
   ·rw[if_neg he] at jN;have hdb:D b:=mY hb he;rw[iC b hdb];by_cases he':b'=h.next
    ·subst he';rw[cw];have:=i.PD hdb (Heap.fG jN);simp only;omega
    ·rw[if_neg he'] at cS;have VF:D b':=mY hb' he';rw[iC b' VF];exact i.apart b b' hdb VF hne jN cS
 ·refine⟨by simp,iC,by rw[hh];simp,fun r hr _=>hold r hr,?_,?_,?_,ht,hos,ho⟩
  ·intro b hb _;rw[Heap.cB,if_neg (by omega)]
  ·intro b hb hn;rw[Heap.cB,if_neg (by omega)] at hn;rw[Db,if_neg (by omega)];exact⟨hn,id⟩
  ·intro b h1 h2;simp at h2;have:b=h.next:=by omega
   subst this;rw[cw];exact .inl (Nat.le_refl _)
theorem sr(i:Inv P H0 ρ D h w){b:Nat}{x:dm}(hd:D b)(jN:h.wr b=true)(hxw:(match x with|.cells _ wr _=>wr|_=>true)=true)
  (hs:w'.heap.size=w.heap.size)(hr:∀r,r≠(ρ b).cj→w'.heap[r]?=w.heap[r]?)(ht:w'.tape=w.tape)(hos:w'.os=w.os)(ho:w'.output=w.output)
  (hx:fu P H0 ρ D (ρ b) x w'):Inv P H0 ρ D (h.set b x) w'∧Ext ρ D h w ρ (h.set b x) w':=by
 have hsome:=Heap.fG jN;have Ed:∀c,(h.set b x).wr c=h.wr c:=by
  intro c;rw[Nm];by_cases he:c=b
  ·subst he;rw[if_pos rfl,hxw,jN]
  ·rw[if_neg he]
 constructor
 ·refine⟨i.lt,?_,by rw[hs];exact i.low,?_,?_⟩
  ·intro c hc;rw[Heap.bP,if_neg (by have:=i.lt b hd;simp at hc;omega)];exact i.top c hc
  ·intro c y hdc hy;rw[Heap.bP] at hy;by_cases he:c=b
   ·subst he;simp only[if_true,Option.some.injEq] at hy;subst hy;exact hx
   ·rw[if_neg he] at hy;refine cA (i.cj c y hdc hy) (fun _=>id) (fun _ _=>rfl) (hr _ ?_);exact fun e=>i.apart b c hd hdc (fun e=>he e.symm) jN (by rw[hy];simp) e.symm
  ·intro c c' hc lf hne hw hg;rw[Ed] at hw;rw[Heap.bP] at hg;refine i.apart c c' hc lf hne hw ?_;by_cases he:c'=b
   ·subst he;exact hsome
   ·rw[if_neg he] at hg;exact hg
 ·refine⟨by simp,fun _ _=>rfl,by omega,?_,?_,?_,fun _ h1 h2=>by simp at h2;omega,ht,hos,ho⟩
  ·intro r _ hb;exact hr r (fun e=>hb b hd jN e.symm)
  ·intro c _ hdc;rw[Heap.bP,if_neg (fun(e:c=b)=>hdc (by rw[e];exact hd))]
  ·intro c _ hn;rw[Ed];refine⟨?_,id⟩;rw[Heap.bP] at hn;by_cases he:c=b
   ·subst he;exact hsome
   ·rw[if_neg he] at hn;exact hn
theorem MZ(i:Inv P H0 ρ D h w){b:Nat}(hd:D b):Inv P H0 ρ D (h.del b) w∧Ext ρ D h w ρ (h.del b) w:=by
 constructor
 ·refine⟨i.lt,fun c hc=>?_,i.low,fun c x hdc hx=>?_,fun c c' hc lf hne hw hg=>?_⟩
  ·rw[Heap.dn];split
   ·rfl
   ·exact i.top c hc
  ·rw[Heap.dn] at hx;split at hx
   ·simp at hx
   ·exact i.cj c x hdc hx
  ·rw[Af] at hw;rw[Heap.dn] at hg;split at hw
   ·simp at hw
   ·split at hg
    ·simp at hg
    ·exact i.apart c c' hc lf hne hw hg
 ·refine⟨by simp,fun _ _=>rfl,Nat.le_refl _,fun _ _ _=>rfl,fun c _ hdc=>?_,fun c _ hn=>?_,fun _ h1 h2=>by simp at h2;omega,rfl,rfl,rfl⟩
  ·rw[Heap.dn,if_neg (fun(e:c=b)=>hdc (by rw[e];exact hd))]
  ·rw[Heap.dn] at hn;rw[Af];split at hn
   ·simp at hn
   ·rename_i he;rw[if_neg he];exact⟨hn,id⟩
theorem JL(i:Inv P H0 ρ D h w){b:Nat}(vs:List AV)(es:Nat)(L:Loc)(hL:L.cj=(ρ b).cj)(hd:D b)(jN:h.wr b=true)
  (hs:w'.heap.size=w.heap.size)(hr:∀r,r≠(ρ b).cj→w'.heap[r]?=w.heap[r]?)(ht:w'.tape=w.tape)(hos:w'.os=w.os)(ho:w'.output=w.output)
  (hx:fu P H0 (mL ρ h.next L) (grow D h.next (h.next+1)) L (.cells vs true es) w'):
  Inv P H0 (mL ρ h.next L) (grow D h.next (h.next+1)) ((h.del b).new (.cells vs true es)) w'∧
  Ext ρ D h w (mL ρ h.next L) ((h.del b).new (.cells vs true es)) w':=by
 have abc:=i.lt b hd;have iC:∀c,D c→mL ρ h.next L c=ρ c:=fun c hc=>lJ _ _ (by have:=i.lt c hc;omega);have cS:∀c,((h.del b).new (.cells vs true es)).get c=if c=h.next then some (.cells vs true es) else if c=b then none else h.get c:=by
  intro c;rw[Heap.cB,Heap.dn];rfl
 have Ed:∀c,((h.del b).new (.cells vs true es)).wr c=if c=h.next then true else if c=b then false else h.wr c:=by
  intro c;rw[Db,Af];rfl
 constructor
 ·refine⟨?_,?_,by rw[hs];exact i.low,?_,?_⟩
  ·rintro c (hc|hc)
   ·have:=i.lt c hc;simp;omega
   ·simp;omega
  ·intro c hc;simp at hc;rw[cS,if_neg (by omega),if_neg (by omega)];exact i.top c (by omega)
  ·rintro c y hc hy;rw[cS] at hy;by_cases he:c=h.next
   ·subst he;simp only[if_true,Option.some.injEq] at hy;subst hy;rw[cw];exact hx
   ·rw[if_neg he] at hy;by_cases xq:c=b
    ·rw[if_pos xq] at hy;simp at hy
    ·rw[if_neg xq] at hy;have hdc:D c:=mY hc he;rw[iC c hdc];exact cA (i.cj c y hdc hy) (fun _=>.inl) iC (hr _ fun e=>i.apart b c hd hdc (fun e=>xq e.symm) jN (by rw[hy];simp) e.symm)
  ·intro c c' hc lf hne hw hg;rw[Ed] at hw;rw[cS] at hg;have key:∀x,x≠h.next→x≠b→grow D h.next (h.next+1) x→h.get x≠none→(ρ b).cj≠(ρ x).cj∧D x:=by
    intro x hx1 hx2 hx3 hx4;have YX:D x:=mY hx3 hx1;exact⟨i.apart b x hd YX (fun e=>hx2 e.symm) jN hx4,YX⟩
   by_cases he:c=h.next
   ·subst he;have V8:c'≠h.next:=fun e=>hne e.symm;rw[if_neg V8] at hg;by_cases xq:c'=b
    ·rw[if_pos xq] at hg;simp at hg
    ·rw[if_neg xq] at hg;have:=key c' V8 xq lf hg;rw[cw,iC c' this.2,hL];exact this.1
   ·rw[if_neg he] at hw;by_cases xq:c=b
    ·rw[if_pos xq] at hw;simp at hw
    ·rw[if_neg xq] at hw;have hk:=key c he xq hc (Heap.fG hw);rw[iC c hk.2];by_cases he':c'=h.next
     ·subst he';rw[cw,hL];exact fun e=>hk.1 e.symm
     ·rw[if_neg he'] at hg;by_cases IV:c'=b
      ·rw[if_pos IV] at hg;simp at hg
      ·rw[if_neg IV] at hg;have hk':=key c' he' IV lf hg;rw[iC c' hk'.2];exact i.apart c c' hk.2 hk'.2 hne hw hg
 ·refine⟨by simp,iC,by omega,?_,?_,?_,?_,ht,hos,ho⟩
  ·intro r _ hb;exact hr r (fun e=>hb b hd jN e.symm)
  ·intro c hc hdc;rw[cS,if_neg (by omega),if_neg (fun(e:c=b)=>hdc (by rw[e];exact hd))]
  ·intro c hc hn;rw[cS,if_neg (by omega)] at hn;rw[Ed,if_neg (by omega)];by_cases xq:c=b
   ·rw[if_pos xq] at hn;simp at hn
   ·rw[if_neg xq] at hn⊢;exact⟨hn,id⟩
  ·intro c h1 h2;simp at h2;have:c=h.next:=by omega
   subst this;rw[cw];exact .inr ⟨b,hd,jN,hL.symm⟩
theorem zX(i:Inv P H0 ρ D h w){b:Nat}{T8:List AV}{RV:Nat}(D5:h.get b=some (.cells T8 true RV))(vs:List AV)(es:Nat)(L:Loc)(hL:L.cj=(ρ b).cj∨w.heap.size≤L.cj)(hd:D b)
  (hs:w.heap.size≤w'.heap.size)(hr:∀r,r<w.heap.size→r≠(ρ b).cj→w'.heap[r]?=w.heap[r]?)(ht:w'.tape=w.tape)(hos:w'.os=w.os)(ho:w'.output=w.output)
  (hb:fu P H0 (mL ρ h.next L) (grow D h.next (h.next+1)) (ρ b) (.cells T8 false RV) w')
  (hx:fu P H0 (mL ρ h.next L) (grow D h.next (h.next+1)) L (.cells vs false es) w'):
  Inv P H0 (mL ρ h.next L) (grow D h.next (h.next+1)) ((h.set b (.cells T8 false RV)).new (.cells vs false es)) w'∧
  Ext ρ D h w (mL ρ h.next L) ((h.set b (.cells T8 false RV)).new (.cells vs false es)) w':=by
 have abc:=i.lt b hd;have jN:h.wr b=true:=by simp[Heap.wr,D5]
 have iC:∀c,D c→mL ρ h.next L c=ρ c:=fun c hc=>lJ _ _ (by have:=i.lt c hc;omega);have cS:∀c,((h.set b (.cells T8 false RV)).new (.cells vs false es)).get c=if c=h.next then some (.cells vs false es) else if c=b then some (.cells T8 false RV) else h.get c:=by
  intro c;rw[Heap.cB,Heap.bP];rfl
 have Ed:∀c,((h.set b (.cells T8 false RV)).new (.cells vs false es)).wr c=if c=h.next then false else if c=b then false else h.wr c:=by
  intro c;rw[Db,Nm];rfl
 constructor
 ·refine⟨?_,?_,Nat.le_trans i.low hs,?_,?_⟩
  ·rintro c (hc|hc)
   ·have:=i.lt c hc;simp;omega
   ·simp;omega
  ·intro c hc;simp at hc;rw[cS,if_neg (by omega),if_neg (by omega)];exact i.top c (by omega)
  ·rintro c y hc hy;rw[cS] at hy;by_cases he:c=h.next
   ·subst he;simp only[if_true,Option.some.injEq] at hy;subst hy;rw[cw];exact hx
   ·rw[if_neg he] at hy;have hdc:D c:=mY hc he;rw[iC c hdc];by_cases xq:c=b
    ·subst xq;rw[if_pos rfl] at hy;simp only[Option.some.injEq] at hy;subst hy;exact hb
    ·rw[if_neg xq] at hy;have FQ:=i.cj c y hdc hy;exact cA FQ (fun _=>.inl) iC (hr _ (iM FQ) fun e=>i.apart b c hd hdc (fun e=>xq e.symm) jN (by rw[hy];simp) e.symm)
  ·intro c c' hc lf hne hw hg;rw[Ed] at hw;rw[cS] at hg;by_cases he:c=h.next
   ·rw[if_pos he] at hw;simp at hw
   ·rw[if_neg he] at hw;by_cases xq:c=b
    ·rw[if_pos xq] at hw;simp at hw
    ·rw[if_neg xq] at hw;have hdc:D c:=mY hc he;have hcb:=i.apart c b hdc hd xq hw (by rw[D5];simp);rw[iC c hdc];by_cases he':c'=h.next
     ·subst he';rw[cw];rcases hL with hL|hL
      ·rw[hL];exact hcb
      ·have:=i.PD hdc (Heap.fG hw);omega
     ·rw[if_neg he'] at hg;have VG:D c':=mY lf he';rw[iC c' VG];by_cases IV:c'=b
      ·subst IV;exact hcb
      ·rw[if_neg IV] at hg;exact i.apart c c' hdc VG hne hw hg
 ·refine⟨by simp,iC,hs,?_,?_,?_,?_,ht,hos,ho⟩
  ·intro r hlt hn;exact hr r hlt (fun e=>hn b hd jN e.symm)
  ·intro c hc hdc;rw[cS,if_neg (by omega),if_neg (fun(e:c=b)=>hdc (by rw[e];exact hd))]
  ·intro c hc hn;rw[cS,if_neg (by omega)] at hn;rw[Ed,if_neg (by omega)];by_cases xq:c=b
   ·rw[if_pos xq];subst xq;exact⟨by rw[D5];simp,fun e=>by simp at e⟩
   ·rw[if_neg xq] at hn⊢;exact⟨hn,id⟩
  ·intro c h1 h2;simp at h2;have:c=h.next:=by omega
   subst this;rw[cw];rcases hL with hL|hL
   ·exact .inr ⟨b,hd,jN,hL.symm⟩
   ·exact .inl hL
end
end Ads
end Go.Proofs.Ytepdklcpagielaa
