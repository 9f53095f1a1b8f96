/-
  Operations that look at no memory: what the model runs is what 'pI' says.
  Operations that look at no memory, one by one: what the model runs is what 'pI' says.
  What the model runs of an operation without memory is what 'pI' says: all of them.
  The other operations without memory.
  Slices, interfaces, functions' values, len, max, min; all operations without memory together.
  All operations without memory together.
-/
import Derived.Test.YtepdklcpagielaaAdsStep
namespace Go.Proofs.Ytepdklcpagielaa
namespace Ads
section
variable {P:Program} {H0:Nat} {ρ:de} {D:Dom} {h:Heap} {w:World}
structure cg(ρ:de)(D:Dom)(n:Nat)(env:Env)(a:Act):Prop where
 size:a.tmps.size=n
 get:∀i,a.tmps.getD i Go.undef=real ρ (env.get i)
 dom:∀i,(env.get i).bq D
mutual
theorem sJ(ρ:de)(D:Dom):∀(f:Nat) (v:Value) (x:AV),kQ f v=some x→real ρ x=v∧x.bq D
 |0,_,_,h=>by simp[kQ] at h
 |f+1,v,x,h=>by
  cases v with
  |bool b=>simp[kQ] at h;subst h;simp[real,AV.bq]
  |int k n=>simp[kQ] at h;subst h;simp[real,AV.bq]
  |float k b=>simp[kQ] at h
  |complex k a b=>simp[kQ] at h
  |string s=>simp[kQ] at h;subst h;cases s;simp[real,AV.bq]
  |pointer a=>
   cases a with
   |none=>simp[kQ] at h;subst h;simp[real,AV.bq]
   |some a=>simp[kQ] at h
  |slice a l c=>
   cases a with
   |some a=>simp[kQ] at h
   |none=>
    cases l with
    |succ l=>simp[kQ] at h
    |zero=>
     cases c with
     |succ c=>simp[kQ] at h
     |zero=>simp[kQ] at h;subst h;simp[real,AV.bq]
  |map r=>
   cases r with
   |none=>simp[kQ] at h;subst h;simp[real,AV.bq]
   |some a=>simp[kQ] at h
  |chan r=>simp[kQ] at h
  |func fn a c=>
   cases fn with
   |func g=>
    simp only[kQ] at h;cases ha:qH f a.toList with
    |none=>simp[ha] at h
    |some xs=>
     cases hc:qH f c.toList with
     |none=>simp[ha,hc] at h
     |some ys=>
      simp[ha,hc] at h;subst h;have h1:=nE ρ D f _ _ ha;have h2:=nE ρ D f _ _ hc;simp[real,AV.bq,h1,h2]
   |_=>simp[kQ] at h
  |nilFunc=>simp[kQ] at h;subst h;simp[real,AV.bq]
  |iface t v=>
   simp only[kQ,Option.map_eq_some_iff] at h;obtain⟨y,hy,rfl⟩:=h;have:=sJ ρ D f v y hy;simp[real,AV.bq,this]
  |nilIface=>simp[kQ] at h;subst h;simp[real,AV.bq]
  |agg cs=>
   simp only[kQ,Option.map_eq_some_iff] at h;obtain⟨y,hy,rfl⟩:=h;have:=nE ρ D f _ y hy;simp[real,AV.bq,this]
  |tuple cs=>
   simp only[kQ,Option.map_eq_some_iff] at h;obtain⟨y,hy,rfl⟩:=h;have:=nE ρ D f _ y hy;simp[real,AV.bq,this]
theorem nE(ρ:de)(D:Dom):∀(f:Nat) (l:List Value) (xs:List AV),qH f l=some xs→aA ρ xs=l∧bE D xs
 |0,_,_,h=>by simp[qH] at h
 |f+1,[],xs,h=>by simp[qH] at h;subst h;simp[aA,bE]
 |f+1,v::vs,xs,h=>by
  simp only[qH] at h;cases ha:kQ f v with
  |none=>simp[ha] at h
  |some y=>
   cases hc:qH f vs with
   |none=>simp[ha,hc] at h
   |some ys=>
    simp[ha,hc] at h;subst h;have h1:=sJ ρ D f _ _ ha;have h2:=nE ρ D f _ _ hc;simp[aA,bE,h1,h2]
end
variable {n:Nat} {env:Env} {a:Act}
theorem aM(he:cg ρ D n env a){x:Operand}{r:bV}(hr:ec x=some r):a.eval x=real ρ (env.ev r)∧(env.ev r).bq D:=by
 cases x with
 |tmp t=>simp[ec] at hr;subst hr;exact⟨he.get t,he.dom t⟩
 |const v=>
  simp only[ec,Option.map_eq_some_iff] at hr;obtain⟨y,hy,rfl⟩:=hr;have:=sJ ρ D _ v y hy;exact⟨this.1.symm,this.2⟩
 |global g=>simp[ec] at hr
 |func f=>simp[ec] at hr;subst hr;simp[Act.eval,Env.ev,real,aA,AV.bq,bE]
theorem iU(he:cg ρ D n env a):∀{xs:List Operand} {rs:List bV},cO xs=some rs→xs.map a.eval=aA ρ (rs.map env.ev)∧bE D (rs.map env.ev)
 |[],rs,h=>by simp[cO] at h;subst h;simp[aA,bE]
 |x::xs,rs,h=>by
  simp only[cO] at h;cases h1:ec x with
  |none=>simp[h1] at h
  |some r=>
   cases h2:cO xs with
   |none=>simp[h1,h2] at h
   |some rs'=>
    simp[h1,h2] at h;subst h;have e1:=aM he h1;have e2:=iU he h2;simp only[List.map_cons,aA,bE];exact⟨by rw[e1.1,e2.1],e1.2,e2.2⟩
theorem gz{x:Operand}{rs:List bV}(h:cO [x]=some rs):∃r,rs=[r]∧ec x=some r:=by
 simp only[cO] at h;cases h1:ec x with
 |none=>simp[h1] at h
 |some r=>simp[h1] at h;exact⟨r,h.symm,rfl⟩
theorem ee{x:Operand}{xs:List Operand}{rs:List bV}(h:cO (x::xs)=some rs):∃r rs',rs=r::rs'∧ec x=some r∧cO xs=some rs':=by
 simp only[cO] at h;cases h1:ec x with
 |none=>simp[h1] at h
 |some r=>
  cases h2:cO xs with
  |none=>simp[h1,h2] at h
  |some rs'=>simp[h1,h2] at h;exact⟨r,rs',h.symm,rfl,rfl⟩
theorem ie{x y:Operand}{rs:List bV}(h:cO [x,y]=some rs):∃r s,rs=[r,s]∧ec x=some r∧ec y=some s:=by
 obtain⟨r,rs',rfl,h1,h2⟩:=ee h;obtain⟨s,rfl,h3⟩:=gz h2;exact⟨r,s,rfl,h1,h3⟩
theorem rX{x y z:Operand}{rs:List bV}(h:cO [x,y,z]=some rs):∃r s t,rs=[r,s,t]∧ec x=some r∧ec y=some s∧ec z=some t:=by
 obtain⟨r,rs',rfl,h1,h2⟩:=ee h;obtain⟨s,t,rfl,h3⟩:=ie h2;exact⟨r,s,t,rfl,h1,h3⟩
theorem bD{op:gP}{xs:List Operand}{p:gP×List bV}(h:one op xs=some p):∃rs,cO xs=some rs∧p=(op,rs):=by
 simp only[one,Option.map_eq_some_iff] at h;obtain⟨rs,h1,h2⟩:=h;exact⟨rs,h1,h2.symm⟩
theorem run_typeInfo{t:TypeId}{i:TypeInfo}(h:P.info? t=some i):(typeInfo t).run P w=.ok i w:=by simp[typeInfo,h]
theorem run_sizeOf{t:TypeId}{k:Nat}(h:fP P t=some k):(sizeOf t).run P w=.ok k w:=by
 simp only[fP,Option.map_eq_some_iff] at h;obtain⟨i,hi,rfl⟩:=h;simp[sizeOf,run_typeInfo hi]
theorem nq{t:TypeId}{g:Bool}(h:nM P t=some g):(isAgg t).run P w=.ok g w:=by
 simp only[nM,Option.map_eq_some_iff] at h;obtain⟨d,hd,rfl⟩:=h;unfold isAgg;rw[Sem.run_bind,run_underlying hd];cases d<;>rfl
theorem dH{t:TypeId}{z:AV}(h:oG P t=some z)(ρ:de)(D:Dom):(zeroValue t).run P w=.ok (real ρ z) w∧z.bq D:=by
 unfold oG at h;cases hi:P.info? t with
 |none=>simp[hi] at h
 |some i=>
  simp only[hi,Option.bind_eq_some_iff] at h;obtain⟨v,hv,hz⟩:=h;have:=sJ ρ D _ v z hz;exact⟨by simp[zeroValue,run_typeInfo hi,hv,this.1],this.2⟩
theorem gn(L:Loc)(o k:Nat):Addr.add ⟨L.cj,L.off+o,none⟩ k=⟨L.cj,L.off+(o+k),none⟩:=by
 unfold Addr.add;split
 ·rename_i e;subst e;rfl
 ·simp[Nat.add_assoc]
theorem kY{v:AV}{i:Nat}(h:asNat v=some i):∃k,v=.int k (i:Int):=by
 cases v with
 |int k n=>
  cases n with
  |ofNat m=>simp[asNat] at h;subst h;exact⟨k,rfl⟩
  |negSucc m=>simp[asNat] at h
 |_=>simp[asNat] at h
theorem aU(ρ:de)(l:List AV):(aA ρ l).length=l.length:=by rw[dj];simp
theorem eX(ρ:de)(l:List AV)(i:Nat):(aA ρ l)[i]?=(l[i]?).map (real ρ):=by rw[dj,List.getElem?_map]
theorem zx(ρ:de)(l:List AV)(k:Nat):aA ρ (l.take k)=(aA ρ l).take k:=by simp[dj]
theorem zw(ρ:de)(l:List AV)(k:Nat):aA ρ (l.drop k)=(aA ρ l).drop k:=by simp[dj]
theorem jg(ρ:de)(l m:List AV):aA ρ (l++m)=aA ρ l++aA ρ m:=by simp[dj]
theorem BQ{t:TypeId}{g:Bool}{k off:Nat}{cs:List AV}{v:AV}(hg:nM P t=some g)(hk:fP P t=some k)(hp:part cs off k g=some v)(hd:bE D cs):
  (Go.part t (aA ρ cs).toArray off).run P w=.ok (real ρ v) w∧v.bq D:=by
 unfold Go.part;rw[Sem.run_bind,nq hg];simp only[Result.andThen];unfold part at hp;cases g with
 |true=>
  simp only[cond_true] at hp;cases hb:Nat.ble (off+k) cs.length with
  |false=>simp[hb] at hp
  |true=>
   simp only[hb,cond_true,Option.some.injEq] at hp;subst hp;have hle:=Nat.le_of_ble_eq_true hb;simp only[if_true,Sem.run_bind,run_sizeOf hk,Result.andThen,Sem.run_pure,real,AV.bq];refine⟨?_,?_⟩
   ·congr 2
    rw[zx,zw];apply Array.ext';simp[List.extract_eq_take_drop]
   ·rw[aV] at hd⊢;exact fun x hx=>hd x (List.mem_of_mem_drop (List.mem_of_mem_take hx))
 |false=>
  simp only[cond_false] at hp;have:(aA ρ cs).toArray[off]?=some (real ρ v):=by
   rw[List.getElem?_toArray,eX,hp];rfl
  refine⟨by simp only[Bool.false_eq_true,if_false,this,Sem.run_pure],(aV D cs).1 hd v (List.mem_of_getElem? hp)⟩
end
end Ads
end Go.Proofs.Ytepdklcpagielaa
namespace Go.Proofs.Ytepdklcpagielaa
namespace Ads
section
variable {P:Program} {ρ:de} {D:Dom} {w:World}
def Ag(P:Program)(ρ:de)(D:Dom)(w:World)(s:Sem Next)(v:AV):Prop:=s.run P w=.ok (.value (real ρ v)) w∧v.bq D
theorem cm{s:Sem Value}{v:AV}(h:s.run P w=.ok (real ρ v) w)(hd:v.bq D):Ag P ρ D w (do pure (.value (←s))) v:=by
 refine⟨?_,hd⟩;rw[Sem.run_bind,h];rfl
theorem EI{α β:Type}(g:α→Sem β)(r:α→β):∀(l:List α),(∀x∈l,(g x).run P w=.ok (r x) w)→(l.mapM g).run P w=.ok (l.map r) w
 |[],_=>by simp
 |x::xs,h=>by
  rw[List.mapM_cons,Sem.run_bind,h x (List.mem_cons_self ..)];simp only[Result.andThen];rw[Sem.run_bind,EI g r xs (fun y hy=>h y (List.mem_cons_of_mem _ hy))];simp[Result.andThen]
theorem zG{α β:Type}(g:α→Sem β)(r:α→β)(l:Array α)(h:∀x∈l.toList,(g x).run P w=.ok (r x) w):(l.mapM g).run P w=.ok (l.map r) w:=by
 obtain⟨l⟩:=l;rw[List.mapM_toArray,Sem.run_map,EI g r l h];simp[Result.andThen]
theorem uX:∀(xs:List Value) (k off:Nat) (cs:Array Value),off+k+xs.length≤cs.size→
  (xs.zipIdx k).foldl (fun cs (p:Value×Nat)=>cs.setIfInBounds (off+p.2) p.1) cs=(Heap.splice cs.toList (off+k) xs).toArray
 |[],k,off,cs,_=>by simp[Heap.c8]
 |x::xs,k,off,cs,h=>by
  simp only[List.zipIdx_cons,List.foldl_cons];rw[uX xs (k+1) off _ (by simp at h⊢;omega),Heap.si _ _ _ _ (by simp at h⊢;omega)];simp[Nat.add_assoc]
theorem uc(xs:Array Value)(off:Nat)(cs:Array Value)(h:off+xs.size≤cs.size):
  xs.zipIdx.foldl (fun cs (p:Value×Nat)=>cs.setIfInBounds (off+p.2) p.1) cs=(Heap.splice cs.toList off xs.toList).toArray:=by
 obtain⟨xs⟩:=xs;have:=uX xs 0 off cs (by simpa using h);simp only[Nat.add_zero] at this;rw[←this];simp
theorem v8{pl:Nat→Option (Nat×Nat)}:∀{idx:List Nat} {places:List (Nat×Nat)} {vals:List AV} {cs out:List AV},
  idx.map pl=places.map some→fill cs places vals=some out→bE D vals→bE D cs→
  Instr.fill pl (aA ρ cs).toArray (idx.zip (aA ρ vals))=some (aA ρ out).toArray∧bE D out∧out.length=cs.length
 |[],[],[],cs,out,_,h,_,hc=>by simp[fill] at h;subst h;simp[Instr.fill,hc]
 |[],[],_::_,cs,out,_,h,_,_=>by simp[fill] at h
 |[],_::_,_,cs,out,hp,_,_,_=>by simp at hp
 |_::_,[],_,cs,out,hp,_,_,_=>by simp at hp
 |i::idx,(o,k)::places,[],cs,out,_,h,_,_=>by simp[fill] at h
 |i::idx,(o,k)::places,v::vals,cs,out,hp,h,hv,hc=>by
  simp only[List.map_cons,List.cons.injEq] at hp;simp only[fill] at h;cases hb:(Nat.beq v.cells.length k&&Nat.ble (o+k) cs.length) with
  |false=>simp[hb] at h
  |true=>
   simp only[hb,cond_true] at h;simp only[Bool.and_eq_true] at hb;have h1:v.cells.length=k:=Nat.eq_of_beq_eq_true hb.1;have h2:=Nat.le_of_ble_eq_true hb.2;simp only[bE] at hv;have hsp:bE D (Heap.splice cs o v.cells):=by
    rw[aV] at hc⊢;have VE:=(aV D _).1 (ke hv.1);intro x hx;obtain⟨j,hj⟩:=List.mem_iff_getElem?.1 hx;rw[Heap.fH _ _ _ _ (by omega)] at hj;split at hj
    ·exact VE x (List.mem_of_getElem? hj)
    ·exact hc x (List.mem_of_getElem? hj)
   have ih:=v8 hp.2 h hv.2 hsp;refine⟨?_,ih.2.1,by rw[ih.2.2,Heap.eU]⟩;simp only[aA,List.zip_cons_cons,Instr.fill,hp.1];rw[eL];have hsz:(aA ρ v.cells).toArray.size=k:=by simp[aU,h1]
   rw[if_neg]
   rotate_left
   ·simp[hsz,aU];omega
   rw[uc _ _ _ (by rw[hsz];simp[aU];omega)];have e:Heap.splice (aA ρ cs) o (aA ρ v.cells)=aA ρ (Heap.splice cs o v.cells):=by simp only[dj,Heap.uG]
   simp only[e];exact ih.1
theorem wM{place:Nat→Option (Nat×Nat)}{env:Env}{a:Act}{n:Nat}(he:cg ρ D n env a):∀{ps:List (Nat×Operand)} {Tx:List (Nat×Nat)} {rs:List bV},
  partsOf ps place=some (Tx,rs)→(ps.map (·.1)).map place=Tx.map some∧(ps.map fun p=>a.eval p.2)=aA ρ (rs.map env.ev)∧bE D (rs.map env.ev)
 |[],Tx,rs,h=>by simp[partsOf] at h;obtain⟨rfl,rfl⟩:=h;simp[aA,bE]
 |(i,x)::ps,Tx,rs,h=>by
  simp only[partsOf] at h;cases h1:place i with
  |none=>simp[h1] at h
  |some p=>
   cases h2:ec x with
   |none=>simp[h1,h2] at h
   |some r=>
    cases h3:partsOf ps place with
    |none=>simp[h1,h2,h3] at h
    |some q=>
     obtain⟨adY,rs'⟩:=q;simp only[h1,h2,h3,Option.some.injEq,Prod.mk.injEq] at h;obtain⟨rfl,rfl⟩:=h;have ih:=wM he h3;have hr:=aM he h2;simp only[List.map_cons,aA,bE];exact⟨by rw[ih.1,h1],by rw[ih.2.1,hr.1],hr.2,ih.2.2⟩
theorem qE{α β γ:Type}(f:β→γ):∀(l:List (α×β)),(l.map fun p=>(p.1,f p.2))=(l.map (·.1)).zip (l.map fun p=>f p.2)
 |[]=>rfl
 |x::xs=>by simp[qE f xs]
variable {n:Nat} {env:Env} {a:Act}
theorem J4{t:TypeId}{d:TypeDesc}(h:P.underlying t=some d):(underlying t).run P w=.ok d w:=run_underlying h w
theorem Kv{op:BinOp}{o1 o2:Operand}{t:TypeId}{x y v:AV}(h:Ao op x y=some v):
  ((do eqGuard op t o1 o2 (real ρ x) (real ρ y);binOp op t (real ρ x) (real ρ y):Sem Value)).run P w=.ok (real ρ v) w∧v.bq D:=by
 cases x with
 |int k p=>
  cases y with
  |int k' q=>
   have hg:(eqGuard op t o1 o2 (.int k p) (.int k' q)).run P w=.ok () w:=by
    unfold eqGuard;cases op<;>simp
   simp only[real,Sem.run_bind,hg,Result.andThen];simp only[Ao] at h;cases hs:lR op with
   |true=>
    simp only[hs,cond_true] at h;unfold oX at h;by_cases hq:q<0
    ·simp[hq] at h
    ·simp only[hq,decide_false,cond_false] at h;cases op<;>simp[lR] at hs<;>simp at h<;>subst h<;>simp[binOp,Op.shift,hq,real,AV.bq]
   |false=>
    simp only[hs,cond_false] at h;by_cases hk:k=k'
    ·subst hk;simp only[decide_true,cond_true] at h;cases op<;>simp[lR] at hs<;>simp only[ug,Option.some.injEq] at h
     case quo=>
      by_cases hq:q=0
      ·simp[hq] at h
      ·simp[hq] at h;subst h;simp[binOp,Op.intDiv,hq,real,AV.bq]
     case rem=>
      by_cases hq:q=0
      ·simp[hq] at h
      ·simp[hq] at h;subst h;simp[binOp,Op.intDiv,hq,real,AV.bq]
     all_goals first
      |(subst h;simp[binOp,Op.intArith,Op.intBits,Op.intCmp,real,AV.bq];done)
      |simp at h
    ·simp[hk] at h
  |_=>simp[Ao] at h
 |str s=>
  cases y with
  |str s'=>
   have hg:(eqGuard op t o1 o2 (.string ⟨s.toArray⟩) (.string ⟨s'.toArray⟩)).run P w=.ok () w:=by
    unfold eqGuard;cases op<;>simp
   simp only[real,Sem.run_bind,hg,Result.andThen];simp only[Ao] at h;cases op<;>simp only[Cg,Option.some.injEq] at h
   case add=>
    cases hb:Nat.ble (s.length+s'.length) 9223372036854775807 with
    |false=>simp[hb] at h
    |true=>
     simp only[hb,cond_true,Option.some.injEq] at h;subst h;have hle:=Nat.le_of_ble_eq_true hb;simp only[binOp];rw[run_string_add_sum w _ _ (by simp only[ByteArray.size,List.size_toArray];omega)];refine⟨?_,by simp[AV.bq]⟩;simp only[real]
     congr 2
   all_goals first
    |(subst h;simp[binOp,Op.stringOp,real,AV.bq,ByteArray.toList_mk];done)
    |simp at h
  |_=>simp[Ao] at h
 |_=>simp[Ao] at h
end
end Ads
end Go.Proofs.Ytepdklcpagielaa
namespace Go.Proofs.Ytepdklcpagielaa
namespace Ads
section
variable {P:Program} {ρ:de} {D:Dom} {w:World} {n:Nat} {env:Env} {a:Act}
theorem DD{c:Bool}{o:Option (List Nat)}{k:Kb}(h:(bif c then none else Option.map Kb.cells o)=some k):∃ks,k=.cells ks:=by
 cases c with
 |true=>simp at h
 |false=>
  simp only[cond_false,Option.map_eq_some_iff] at h;obtain⟨ks,-,rfl⟩:=h;exact⟨ks,rfl⟩
theorem Qc{k:Nat}{t:TypeId}{x y:AV}{b:Bool}(hu:(match P.underlying t with|some (.int _)=>k=0|some .bool=>k=1|some .string=>k=2|_=>False))(h:qK k x y=some b):
  (Op.equalIn 9999 t (real ρ x) (real ρ y)).run P w=.ok b w:=by
 unfold Op.equalIn;cases hd:P.underlying t with
 |none=>simp[hd] at hu
 |some d=>
  rw[Sem.run_bind,run_underlying hd];simp only[Result.andThen];unfold qK at h;split at h
  ·rename_i k1 n1 k2 n2;cases hk:decide (k1=k2) with
   |false=>simp[hk] at h
   |true=>
    have:=of_decide_eq_true hk;subst this;simp at h;subst h;cases d<;>simp[hd] at hu<;>simp[real]
  ·simp at h;subst h;cases d<;>simp[hd] at hu<;>simp[real]
  ·simp at h;subst h;rename_i s1 s2;cases d<;>simp[hd] at hu
   simp only[real,Sem.run_pure,Result.ok.injEq,and_true];show(s1.toArray==s2.toArray)=(s1==s2);simp
  ·simp at h
theorem BV{X Y:Array Value}:∀(fs:List Field) (i:Nat) {ks:List Nat} {xs ys:List AV} {b:Bool},ow P i fs=some ks→eC ks xs ys=some b→
  (∀j,X[i+j]?=(xs[j]?).map (real ρ))→(∀j,Y[i+j]?=(ys[j]?).map (real ρ))→
  (forIn (m:=Sem) fs ((none,()):Option Bool×Unit) fun(f:Field) (__s:Option Bool×Unit)=>
   if f.name≠ "_" then do
    let __do_lift ←Go.part f.type X f.offset
    let __do_lift_1 ←Go.part f.type Y f.offset
    let __do_lift ←Op.equalIn 9999 f.type __do_lift __do_lift_1
    if(!__do_lift)=true then pure (ForInStep.done (some false,()))
     else pure (ForInStep.yield (none,()))
   else pure (ForInStep.yield (none,()))).run P w=.ok (bif b then(none,()) else(some false,())) w
 |[],i,ks,xs,ys,b,hk,h,hX,hY=>by
  simp only[ow,Option.some.injEq] at hk;subst hk;simp only[eC,Option.some.injEq] at h;subst h;simp
 |f::fs,i,ks,xs,ys,b,hk,h,hX,hY=>by
  simp only[ow] at hk;cases hc:(f.name != "_" &&Nat.beq f.offset i) with
  |false=>simp[hc] at hk
  |true=>
   simp only[hc,cond_true] at hk;simp only[Bool.and_eq_true,bne_iff_ne,ne_eq] at hc;have hoff:=Nat.eq_of_beq_eq_true hc.2;have hks:∃k ks',ks=k::ks'∧ow P (i+1) fs=some ks'∧(match P.underlying f.type with|some (.int _)=>k=0|some .bool=>k=1|some .string=>k=2|_=>False)∧nM P f.type=some false:=by
    split at hk
    ·rename_i hu;simp only[Option.map_eq_some_iff] at hk;obtain⟨ks',h1,rfl⟩:=hk;exact⟨_,_,rfl,h1,by simp[hu],by simp[nM,hu]⟩
    ·rename_i hu;simp only[Option.map_eq_some_iff] at hk;obtain⟨ks',h1,rfl⟩:=hk;exact⟨_,_,rfl,h1,by simp[hu],by simp[nM,hu]⟩
    ·rename_i hu;simp only[Option.map_eq_some_iff] at hk;obtain⟨ks',h1,rfl⟩:=hk;exact⟨_,_,rfl,h1,by simp[hu],by simp[nM,hu]⟩
    ·simp at hk
   obtain⟨k,ks',rfl,hk',V2,Vs⟩:=hks;cases xs with
   |nil=>simp[eC] at h
   |cons x xs=>
    cases ys with
    |nil=>simp[eC] at h
    |cons y ys=>
     have hx0:=hX 0;have hy0:=hY 0;simp only[Nat.add_zero,List.getElem?_cons_zero,Option.map_some] at hx0 hy0;have hone:∃c,qK k x y=some c:=by
      simp only[eC] at h;split at h
      ·exact⟨_,by assumption⟩
      ·exact⟨_,by assumption⟩
      ·simp at h
     obtain⟨c,hone⟩:=hone;have hpx:(Go.part f.type X f.offset).run P w=.ok (real ρ x) w:=by
      unfold Go.part;rw[Sem.run_bind,nq Vs];simp only[Result.andThen,Bool.false_eq_true,if_false,hoff,hx0,Sem.run_pure]
     have hpy:(Go.part f.type Y f.offset).run P w=.ok (real ρ y) w:=by
      unfold Go.part;rw[Sem.run_bind,nq Vs];simp only[Result.andThen,Bool.false_eq_true,if_false,hoff,hy0,Sem.run_pure]
     have he:=Qc (ρ:=ρ) (w:=w) V2 hone;rw[List.forIn_cons,Sem.run_bind];simp only[ne_eq,hc.1,not_false_eq_true,if_true];rw[Sem.run_bind,hpx];simp only[Result.andThen];rw[Sem.run_bind,hpy];simp only[Result.andThen];rw[Sem.run_bind,he];simp only[Result.andThen];simp only[eC,hone] at h;cases c with
     |false=>
      simp only[Option.some.injEq] at h;subst h;simp
     |true=>
      simp only at h;simp only[Bool.not_true,Bool.false_eq_true,if_false,Sem.run_pure];refine BV fs (i+1) hk' h (fun j=>?_) (fun j=>?_)
      ·have:=hX (j+1);rw[List.getElem?_cons_succ] at this;rw[←this];congr 1;omega
      ·have:=hY (j+1);rw[List.getElem?_cons_succ] at this;rw[←this];congr 1;omega
theorem OP{k:Kb}{t:TypeId}{x y:AV}{b:Bool}(hk:ru P t=some k)(h:Dd k x y=some b):
  (Op.equal t (real ρ x) (real ρ y)).run P w=.ok b w:=by
 unfold Op.equal Op.maxDepth;unfold ru at hk;unfold Op.equalIn;cases hu:P.underlying t with
 |none=>simp[hu] at hk
 |some d=>
  rw[Sem.run_bind,run_underlying hu];simp only[Result.andThen];unfold Dd at h;split at h
  case h_24=>simp at h
  case h_1 ks xs ys=>
   cases d<;>simp only[hu,reduceCtorEq,Option.some.injEq] at hk
   case struct fs=>
    cases hst:(P.stoodInHeld t||P.eqGuardType P.depth t) with
    |true=>simp[hst] at hk
    |false=>
     simp only[hst,cond_false,Option.map_eq_some_iff,Kb.cells.injEq,exists_eq_right] at hk;simp only[Bool.or_eq_false_iff] at hst;simp only[real];rw[Sem.run_bind];have hr:=BV (P:=P) (ρ:=ρ) (w:=w) (X:=(aA ρ xs).toArray) (Y:=(aA ρ ys).toArray) fs.toList 0 hk h (fun j=>by rw[Nat.zero_add,List.getElem?_toArray,eX]) (fun j=>by rw[Nat.zero_add,List.getElem?_toArray,eX]);have hp:(program:Sem Program).run P w=.ok P w:=by simp
     rw[hp];simp only[Result.andThen,hst.1,Bool.false_eq_true,if_false];rw[Sem.run_bind,←Array.forIn_toList,hr];cases b<;>simp[Result.andThen]
  all_goals (cases d<;>simp[hu] at hk<;>first|(obtain⟨_,hks⟩:=DD hk;exact absurd hks (by simp))|(simp at h<;>subst h<;>simp[real]))
theorem FO{op:BinOp}{t:TypeId}{o1 o2:Operand}{k:Kb}{x y:AV}{b:Bool}(hk:ru P t=some k)(hc:(gw o1||gw o2||!mb P t)=true)
  (h:Dd k x y=some b):(eqGuard op t o1 o2 (real ρ x) (real ρ y)).run P w=.ok () w:=by
 unfold eqGuard;cases op
 case eql|neq=>
  simp only[Bool.not_true,Bool.false_eq_true,if_false];unfold Dd at h;split at h
  case h_24=>simp at h
  case h_1 ks xs ys=>
   have hst:P.eqGuardType P.depth t=false:=by
    unfold ru at hk;cases hu:P.underlying t with
    |none=>simp[hu] at hk
    |some d=>
     cases d<;>simp only[hu,reduceCtorEq,Option.some.injEq] at hk
     case struct fs=>
      cases hst:(P.stoodInHeld t||P.eqGuardType P.depth t) with
      |true=>simp[hst] at hk
      |false=>
       simp only[Bool.or_eq_false_iff] at hst;exact hst.2
   simp[real,hst,Result.andThen]
  case h_21=>
   have hi:mb P t=true:=by
    unfold ru at hk;unfold mb;cases hu:P.underlying t with
    |none=>simp[hu] at hk
    |some d=>cases d<;>simp[hu] at hk⊢<;>(obtain⟨_,hks⟩:=DD hk;exact absurd hks (by simp))
   simp only[hi,Bool.not_true,Bool.or_false] at hc;simp only[real];cases o1<;>cases o2<;>simp[gw] at hc⊢
  all_goals simp[real]
 all_goals rfl
theorem Dt{k:Kb}{t:TypeId}{x y:AV}{b:Bool}(h:Dd k x y=some b):
  binOp .eql t (real ρ x) (real ρ y)=(do pure (.bool (←Op.equal t (real ρ x) (real ρ y))))∧
  binOp .neq t (real ρ x) (real ρ y)=(do pure (.bool (!(←Op.equal t (real ρ x) (real ρ y))))):=by
 unfold Dd at h;split at h
 case h_24=>simp at h
 all_goals (simp only[real];exact⟨rfl,rfl⟩)
theorem FF(o:Oper)(op:BinOp)(t:TypeId)(x y:Operand)(yt:TypeId)(No:Operand→Value)(ho:o.op=.binOp op t x y yt):
  execOp No o=(do pure (.value (←(do eqGuard op t x y (No x) (No y);binOp op t (No x) (No y):Sem Value)))):=by
 unfold execOp;rw[ho]
theorem Du{o:Oper}{op:BinOp}{t yt:TypeId}{x y:Operand}{p:sH}{rs:List bV}{v:AV}(he:cg ρ D n env a)
  (ho:o.op=.binOp op t x y yt)(hc:aH P o.op=some (.p p,rs))(hv:pI p (rs.map env.ev)=some v):Ag P ρ D w (execOp a.eval o) v:=by
 rw[FF o op t x y yt _ ho];rw[ho] at hc;have two:∀{q:gP},one q [x,y]=some (.p p,rs)→q=.p p∧∃r s,rs=[r,s]∧a.eval x=real ρ (env.ev r)∧a.eval y=real ρ (env.ev s):=by
  intro q h;obtain⟨rs',h1,h2⟩:=bD h;simp only[Prod.mk.injEq] at h2;obtain⟨r,s,rfl,hr,hs⟩:=ie h1;exact⟨h2.1.symm,r,s,h2.2,(aM he hr).1,(aM he hs).1⟩
 simp only[aH] at hc;have KS:∀(neg:Bool) (k:Kb),ru P t=some k→(gw x||gw y||!mb P t)=true→(op=.eql∧neg=false∨op=.neq∧neg=true)→
   (∀k',P.underlying t≠some (.int k'))→P.underlying t≠some .string→
   one (.p (cond neg (.neq k) (.eq k))) [x,y]=some (.p p,rs)→Ag P ρ D w (do pure (.value (←(do eqGuard op t x y (a.eval x) (a.eval y);binOp op t (a.eval x) (a.eval y):Sem Value)))) v:=by
  intro neg k hk fh hop hni Wb h1;obtain⟨hq,r,s,rfl,e1,e2⟩:=two h1;simp only[gP.p.injEq] at hq;subst hq;simp only[List.map_cons,List.map_nil] at hv;have hb:∃b,Dd k (env.ev r) (env.ev s)=some b∧v=.bool (cond neg (!b) b):=by
   cases neg
   ·simp only[cond_false,pI,Option.map_eq_some_iff] at hv;obtain⟨b,hb,rfl⟩:=hv;exact⟨b,hb,rfl⟩
   ·simp only[cond_true,pI,Option.map_eq_some_iff] at hv;obtain⟨b,hb,rfl⟩:=hv;exact⟨b,hb,rfl⟩
  obtain⟨b,hb,rfl⟩:=hb;refine cm ?_ (by simp[AV.bq]);rw[Sem.run_bind,e1,e2,FO hk fh hb];simp only[Result.andThen];have heq:=OP (ρ:=ρ) (w:=w) hk hb;rcases hop with⟨rfl,rfl⟩|⟨rfl,rfl⟩
  ·rw[(Dt hb).1,Sem.run_bind,heq];simp[Result.andThen,real]
  ·rw[(Dt hb).2,Sem.run_bind,heq];simp[Result.andThen,real]
 have G8:one (.p (.bin op)) [x,y]=some (.p p,rs)→Ag P ρ D w (do pure (.value (←(do eqGuard op t x y (a.eval x) (a.eval y);binOp op t (a.eval x) (a.eval y):Sem Value)))) v:=by
  intro h1;obtain⟨hq,r,s,rfl,e1,e2⟩:=two h1;simp only[gP.p.injEq] at hq;subst hq;simp only[List.map_cons,List.map_nil,pI] at hv;have:=Kv (P:=P) (ρ:=ρ) (D:=D) (w:=w) (o1:=x) (o2:=y) (t:=t) hv;rw[e1,e2];exact cm this.1 this.2
 cases hu:P.underlying t with
 |none=>
  simp only[hu] at hc;cases op<;>simp[ru,hu] at hc
 |some d=>
  by_cases hint:∃k,d=.int k
  ·obtain⟨k,rfl⟩:=hint;simp only[hu] at hc;exact G8 hc
  ·by_cases SM:d=.string
   ·subst SM;simp only[hu] at hc;exact G8 hc
   ·have hni:∀k',P.underlying t≠some (.int k'):=by
     intro k' e;rw[hu] at e;simp at e;exact hint ⟨k',e⟩
    have Wb:P.underlying t≠some .string:=by
     intro e;rw[hu] at e;simp at e;exact SM e
    have lf:(match op with
      |.eql=>if gw x||gw y||!mb P t then(ru P t).bind fun k=>one (.p (.eq k)) [x,y] else none
      |.neq=>if gw x||gw y||!mb P t then(ru P t).bind fun k=>one (.p (.neq k)) [x,y] else none
      |_=>none)=some (.p p,rs):=by
     revert hc;cases d<;>first|(exfalso;exact hint ⟨_,rfl⟩)|(exfalso;exact SM rfl)|(simp only[hu];exact id)
    cases op<;>simp only at lf<;>try(simp at lf;done)
    ·split at lf
     ·rename_i fh;simp only[Option.bind_eq_some_iff] at lf;obtain⟨k,hk,h1⟩:=lf;exact KS false k hk fh (.inl ⟨rfl,rfl⟩) hni Wb h1
     ·simp at lf
    ·split at lf
     ·rename_i fh;simp only[Option.bind_eq_some_iff] at lf;obtain⟨k,hk,h1⟩:=lf;exact KS true k hk fh (.inr ⟨rfl,rfl⟩) hni Wb h1
     ·simp at lf
end
end Ads
end Go.Proofs.Ytepdklcpagielaa
set_option linter.unusedSimpArgs false
set_option linter.unusedVariables false
namespace Go.Proofs.Ytepdklcpagielaa
namespace Ads
section
variable {P:Program} {ρ:de} {D:Dom} {w:World} {n:Nat} {env:Env} {a:Act}
theorem ff{q:gP}{x:Operand}{p:sH}{rs:List bV}(he:cg ρ D n env a)(h:one q [x]=some (.p p,rs)):
  q=.p p∧∃r,rs=[r]∧a.eval x=real ρ (env.ev r)∧(env.ev r).bq D:=by
 obtain⟨rs',h1,h2⟩:=bD h;simp only[Prod.mk.injEq] at h2;obtain⟨r,rfl,hr⟩:=gz h1;exact⟨h2.1.symm,r,h2.2,(aM he hr).1,(aM he hr).2⟩
theorem sY{q:gP}{x y:Operand}{p:sH}{rs:List bV}(he:cg ρ D n env a)(h:one q [x,y]=some (.p p,rs)):
  q=.p p∧∃r s,rs=[r,s]∧a.eval x=real ρ (env.ev r)∧a.eval y=real ρ (env.ev s)∧(env.ev r).bq D∧(env.ev s).bq D:=by
 obtain⟨rs',h1,h2⟩:=bD h;simp only[Prod.mk.injEq] at h2;obtain⟨r,s,rfl,hr,hs⟩:=ie h1;exact⟨h2.1.symm,r,s,h2.2,(aM he hr).1,(aM he hs).1,(aM he hr).2,(aM he hs).2⟩
theorem ze{x:Operand}{p:sH}{rs:List bV}{v:AV}(he:cg ρ D n env a)(hc:one (.p .J3) [x]=some (.p p,rs))(hv:pI p (rs.map env.ev)=some v):
  a.eval x=real ρ v∧v.bq D:=by
 obtain⟨hq,r,rfl,e1,d1⟩:=ff he hc;simp only[gP.p.injEq] at hq;subst hq;simp only[List.map_cons,List.map_nil,pI,Option.some.injEq] at hv;subst hv;exact⟨e1,d1⟩
theorem Gr{c x y:Operand}{p:sH}{rs:List bV}{v:AV}(he:cg ρ D n env a)(hc:one (.p .pick) [c,x,y]=some (.p p,rs))(hv:pI p (rs.map env.ev)=some v):
  Ag P ρ D w (do pure (.value (if←asBool (a.eval c) then a.eval x else a.eval y))) v:=by
 obtain⟨rs',h1,h2⟩:=bD hc;simp only[Prod.mk.injEq,gP.p.injEq] at h2;obtain⟨rfl,rfl⟩:=h2;obtain⟨r,s,t,rfl,h1,h2,h3⟩:=rX h1;have e1:=aM he h1;have e2:=aM he h2;have e3:=aM he h3;simp only[List.map_cons,List.map_nil] at hv;rw[e1.1,e2.1,e3.1];cases hb:env.ev r with
 |bool b=>
  rw[hb] at hv;simp only[pI,Option.some.injEq] at hv;subst hv;unfold Ag;cases b<;>simp[real,asBool,Result.andThen,e2.2,e3.2]
 |_=>rw[hb] at hv;simp[pI] at hv
theorem run_build{t:TypeId}{ps:List (Nat×Operand)}{places:List (Nat×Nat)}{rs:List bV}{z:AV}{cs:List AV}{pl:Nat→Option (Nat×Nat)}(he:cg ρ D n env a)
  (hz:oG P t=some z)(hps:partsOf ps pl=some (places,rs))(hf:fill z.cells places (rs.map env.ev)=some cs):
  Instr.fill pl (real ρ z).cells (ps.map fun p=>(p.1,a.eval p.2))=some (aA ρ cs).toArray∧bE D cs:=by
 have hp:=wM he hps;have hzd:=(dH (P:=P) (w:=default) hz ρ D).2;rw[qE a.eval,hp.2.1,eL];have:=v8 (ρ:=ρ) (D:=D) hp.1 hf hp.2.2 (ke hzd);exact⟨this.1,this.2.1⟩
theorem Dx{t:TypeId}{ps:Array (Nat×Operand)}{p:sH}{rs:List bV}{v:AV}(he:cg ρ D n env a)(hc:aH P (.build t ps)=some (.p p,rs))(hv:pI p (rs.map env.ev)=some v):
  Ag P ρ D w (do pure (.value (←Instr.build t (ps.map fun(i,x)=>(i,a.eval x))))) v:=by
 simp only[aH] at hc;split at hc
 ·rename_i z fs hz hu;split at hc
  ·simp at hc
  ·rename_i hall;simp only[Option.map_eq_some_iff] at hc;obtain⟨⟨places,rs'⟩,hps,hq⟩:=hc;simp only[Prod.mk.injEq,gP.p.injEq] at hq;obtain⟨rfl,rfl⟩:=hq;simp only[pI,Option.map_eq_some_iff] at hv;obtain⟨cs,hf,rfl⟩:=hv;have hb:=run_build he hz hps hf;refine cm ?_ (by simp only[AV.bq];exact hb.2);simp only[Instr.build,Sem.run_bind,(dH hz ρ D).1,Result.andThen,run_underlying hu,Sem.run_pure];have QX:∀f∈fs.toList,(fP P f.type).isSome=true:=by
    simp only[Bool.not_eq_true',Bool.not_eq_false] at hall;intro f hf;have:=Array.all_eq_true_iff_forall_mem.1 hall f (by simpa using hf);exact this
   have hm:=zG (P:=P) (w:=w) (fun f:Field=>(do pure (f.offset,←sizeOf f.type):Sem (Nat×Nat))) (fun f:Field=>(f.offset,(fP P f.type).getD 0)) fs (by
    intro f hf;obtain⟨k,hk⟩:=Option.isSome_iff_exists.1 (QX f hf);rw[Sem.run_bind,run_sizeOf hk];simp[Result.andThen,hk])
   rw[hm];simp only[Result.andThen];have m9:(fun i=>(fs.map fun f:Field=>(f.offset,(fP P f.type).getD 0))[i]?)=p8 P fs:=by
    funext i
    unfold p8;rw[Array.getElem?_map];cases Y1:fs[i]? with
    |none=>rfl
    |some f=>
     obtain⟨k,hk⟩:=Option.isSome_iff_exists.1 (QX f (by
      have:=Array.mem_of_getElem? Y1;simpa using this))
     simp[hk]
   rw[m9];have e:(ps.map fun(p:Nat×Operand)=>(p.1,a.eval p.2)).toList=ps.toList.map fun p=>(p.1,a.eval p.2):=by simp
   rw[show(ps.map fun(i,x)=>(i,a.eval x)).toList=ps.toList.map fun p=>(p.1,a.eval p.2) from e,hb.1];simp[real]
 ·rename_i z len e hz hu;split at hc
  ·rename_i k hk;simp only[Option.map_eq_some_iff] at hc;obtain⟨⟨places,rs'⟩,hps,hq⟩:=hc;simp only[Prod.mk.injEq,gP.p.injEq] at hq;obtain⟨rfl,rfl⟩:=hq;simp only[pI,Option.map_eq_some_iff] at hv;obtain⟨cs,hf,rfl⟩:=hv;have hb:=run_build he hz hps hf;refine cm ?_ (by simp only[AV.bq];exact hb.2);simp only[Instr.build,Sem.run_bind,(dH hz ρ D).1,Result.andThen,run_underlying hu,Sem.run_pure,run_sizeOf hk];have e:(ps.map fun(p:Nat×Operand)=>(p.1,a.eval p.2)).toList=ps.toList.map fun p=>(p.1,a.eval p.2):=by simp
   rw[show(ps.map fun(i,x)=>(i,a.eval x)).toList=ps.toList.map fun p=>(p.1,a.eval p.2) from e,hb.1];simp[real]
  ·simp at hc
 ·simp at hc
theorem zh{x:Operand}{p:sH}{rs:List bV}{v:AV}(he:cg ρ D n env a)(o:Oper)(ho:o.op=.nilCheck x)(hc:one (.p .rQ) [x]=some (.p p,rs))(hv:pI p (rs.map env.ev)=some v):
  Ag P ρ D w (execOp a.eval o) v:=by
 obtain⟨hq,r,rfl,e1,d1⟩:=ff he hc;simp only[gP.p.injEq] at hq;subst hq;simp only[List.map_cons,List.map_nil] at hv;unfold execOp;rw[ho];simp only;rw[e1];cases hr:env.ev r with
 |ptr b o=>
  rw[hr] at hv d1;simp only[pI,Option.some.injEq] at hv;subst hv;exact⟨by simp[real],d1⟩
 |_=>rw[hr] at hv;simp[pI] at hv
theorem Fy{s d:TypeId}{x:Operand}{p:sH}{rs:List bV}{v:AV}(he:cg ρ D n env a)(hc:aH P (.convert s d x)=some (.p p,rs))(hv:pI p (rs.map env.ev)=some v):
  Ag P ρ D w (do pure (.value (←convert s d (a.eval x)))) v:=by
 simp only[aH] at hc;split at hc
 ·rename_i sd k hs hd;obtain⟨hq,r,rfl,e1,d1⟩:=ff he hc;simp only[gP.p.injEq] at hq;subst hq;simp only[List.map_cons,List.map_nil] at hv;rw[e1];cases hr:env.ev r with
  |int k' m=>
   rw[hr] at hv;simp only[pI,Option.some.injEq] at hv;subst hv;refine cm ?_ (by simp[AV.bq]);simp[convert,run_underlying hs,run_underlying hd,Conv.intToInt,real,Result.andThen]
  |_=>rw[hr] at hv;simp[pI] at hv
 ·rename_i hs hd;obtain⟨hq,r,rfl,e1,d1⟩:=ff he hc;simp only[gP.p.injEq] at hq;subst hq;simp only[List.map_cons,List.map_nil] at hv;rw[e1];cases hr:env.ev r with
  |str m=>
   rw[hr] at hv;simp only[pI,Option.some.injEq] at hv;subst hv;refine cm ?_ (by simp[AV.bq]);simp[convert,run_underlying hs,run_underlying hd,real,Result.andThen]
  |_=>rw[hr] at hv;simp[pI] at hv
 ·split at hc
  ·obtain⟨rs',h1,h2⟩:=bD hc;simp at h2
  ·simp at hc
 ·split at hc
  ·obtain⟨rs',h1,h2⟩:=bD hc;simp at h2
  ·simp at hc
 ·simp at hc
theorem xM{t:TypeId}{x:Operand}{i:Nat}{p:sH}{rs:List bV}{v:AV}(he:cg ρ D n env a)(hc:aH P (.fieldAddr t x i)=some (.p p,rs))(hv:pI p (rs.map env.ev)=some v):
  Ag P ρ D w (do pure (.value (←Instr.fieldAt t (a.eval x) i))) v:=by
 simp only[aH] at hc;split at hc
 ·rename_i fs hu;split at hc
  ·rename_i f hf;split at hc
   ·rename_i k hk;obtain⟨hq,r,rfl,e1,d1⟩:=ff he hc;simp only[gP.p.injEq] at hq;subst hq;simp only[List.map_cons,List.map_nil] at hv;rw[e1];cases hr:env.ev r with
    |ptr b o=>
     rw[hr] at hv d1;simp only[pI,Option.some.injEq] at hv;subst hv;refine cm ?_ (by simpa[AV.bq] using d1);simp[Instr.fieldAt,run_underlying hu,hf,Instr.sureAddr,fieldPlace,run_sizeOf hk,real,Result.andThen,gn]
    |_=>rw[hr] at hv;simp[pI] at hv
   ·simp at hc
  ·simp at hc
 ·simp at hc
theorem DQ{t:TypeId}{x:Operand}{i:Nat}{p:sH}{rs:List bV}{v:AV}(he:cg ρ D n env a)(hc:aH P (.field t x i)=some (.p p,rs))(hv:pI p (rs.map env.ev)=some v):
  Ag P ρ D w (do pure (.value (←Instr.field t (a.eval x) i))) v:=by
 simp only[aH] at hc;split at hc
 ·rename_i fs hu;split at hc
  ·rename_i f hf;split at hc
   ·rename_i g k hg hk;obtain⟨hq,r,rfl,e1,d1⟩:=ff he hc;simp only[gP.p.injEq] at hq;subst hq;simp only[List.map_cons,List.map_nil] at hv;rw[e1];cases hr:env.ev r with
    |agg cs=>
     rw[hr] at hv d1;simp only[pI] at hv;simp only[AV.bq] at d1;have hp:=BQ (P:=P) (ρ:=ρ) (w:=w) hg hk hv d1;refine cm ?_ hp.2;simp[Instr.field,run_underlying hu,hf,asAgg,real,Result.andThen,hp.1]
    |_=>rw[hr] at hv;simp[pI] at hv
   ·simp at hc
  ·simp at hc
 ·simp at hc
theorem xQ{t:TypeId}{x y:Operand}{p:sH}{rs:List bV}{v:AV}(he:cg ρ D n env a)(hc:aH P (.indexAddr t x y)=some (.p p,rs))(hv:pI p (rs.map env.ev)=some v):
  Ag P ρ D w (do pure (.value (←Instr.indexAt t (a.eval x) (a.eval y)))) v:=by
 simp only[aH] at hc;split at hc
 ·rename_i e hu;simp only[Option.bind_eq_some_iff] at hc;obtain⟨k,hk,hc⟩:=hc;obtain⟨hq,r,s,rfl,e1,e2,d1,d2⟩:=sY he hc;simp only[gP.p.injEq] at hq;subst hq;simp only[List.map_cons,List.map_nil] at hv;rw[e1,e2];cases hr:env.ev r with
  |sl b o len cap kU=>
   rw[hr] at hv d1;simp only[pI] at hv;cases hn:asNat (env.ev s) with
   |none=>simp[hn] at hv
   |some i=>
    simp only[hn] at hv;obtain⟨ik,hs⟩:=kY hn;rw[hs];cases hb:Nat.ble (i+1) len with
    |false=>simp[hb] at hv
    |true=>
     simp only[hb,cond_true,Option.some.injEq] at hv;subst hv;have hle:=Nat.le_of_ble_eq_true hb;refine cm ?_ (by simpa[AV.bq] using d1);simp only[real,Instr.indexAt,asIntOf,Sem.run_bind,Sem.run_pure,Result.andThen,run_underlying hu];rw[if_pos ⟨by omega,by omega⟩];simp[Sem.run_bind,run_sizeOf hk,Result.andThen,gn]
  |_=>rw[hr] at hv;simp[pI] at hv
 ·rename_i len e hu;simp only[Option.bind_eq_some_iff] at hc;obtain⟨k,hk,hc⟩:=hc;obtain⟨hq,r,s,rfl,e1,e2,d1,d2⟩:=sY he hc;simp only[gP.p.injEq] at hq;subst hq;simp only[List.map_cons,List.map_nil] at hv;rw[e1,e2];cases hr:env.ev r with
  |ptr b o=>
   rw[hr] at hv d1;simp only[pI] at hv;cases hn:asNat (env.ev s) with
   |none=>simp[hn] at hv
   |some i=>
    simp only[hn] at hv;obtain⟨ik,hs⟩:=kY hn;rw[hs];cases hb:Nat.ble (i+1) len with
    |false=>simp[hb] at hv
    |true=>
     simp only[hb,cond_true,Option.some.injEq] at hv;subst hv;have hle:=Nat.le_of_ble_eq_true hb;refine cm ?_ (by simpa[AV.bq] using d1);simp only[real,Instr.indexAt,asIntOf,Sem.run_bind,Sem.run_pure,Result.andThen,run_underlying hu,Instr.sureAddr];have hlt:0≤(i:Int)∧(i:Int)<(len:Int):=⟨by omega,by omega⟩;by_cases h1:len≤1
     ·simp[hlt,h1,run_underlying hu,Sem.run_bind,run_sizeOf hk,Result.andThen,gn]
     ·simp[hlt,h1,Sem.run_bind,run_sizeOf hk,Result.andThen,gn]
  |_=>rw[hr] at hv;simp[pI] at hv
 ·simp at hc
theorem Eg{t:TypeId}{x y:Operand}{p:sH}{rs:List bV}{v:AV}(he:cg ρ D n env a)(hc:aH P (.index t x y)=some (.p p,rs))(hv:pI p (rs.map env.ev)=some v):
  Ag P ρ D w (do pure (.value (←Instr.index t (a.eval x) (a.eval y)))) v:=by
 simp only[aH] at hc;split at hc
 ·rename_i hu;obtain⟨hq,r,s,rfl,e1,e2,d1,d2⟩:=sY he hc;simp only[gP.p.injEq] at hq;subst hq;simp only[List.map_cons,List.map_nil] at hv;rw[e1,e2];cases hr:env.ev r with
  |str l=>
   rw[hr] at hv;simp only[pI] at hv;cases hn:asNat (env.ev s) with
   |none=>simp[hn] at hv
   |some i=>
    simp only[hn,Option.map_eq_some_iff] at hv;obtain⟨b,hb,rfl⟩:=hv;obtain⟨ik,hs⟩:=kY hn;rw[hs];refine cm ?_ (by simp[AV.bq]);have hlt:i<l.length:=(List.getElem?_eq_some_iff.1 hb).1;have cS:(⟨l.toArray⟩:ByteArray)[i]?=some b:=by
     rw[getElem?_def];have:i<(⟨l.toArray⟩:ByteArray).size:=by simpa[ByteArray.size] using hlt
     rw[dif_pos this];have:=(List.getElem?_eq_some_iff.1 hb).2;simp[←this];rfl
    simp only[real,Instr.index,asIntOf,Sem.run_bind,Sem.run_pure,Result.andThen,run_underlying hu];simp[cS]
  |_=>rw[hr] at hv;simp[pI] at hv
 ·rename_i len e hu;split at hc
  ·rename_i g k hg hk;obtain⟨hq,r,s,rfl,e1,e2,d1,d2⟩:=sY he hc;simp only[gP.p.injEq] at hq;subst hq;simp only[List.map_cons,List.map_nil] at hv;rw[e1,e2];cases hr:env.ev r with
   |agg cs=>
    rw[hr] at hv d1;simp only[pI] at hv;simp only[AV.bq] at d1;cases hn:asNat (env.ev s) with
    |none=>simp[hn] at hv
    |some i=>
     simp only[hn] at hv;obtain⟨ik,hs⟩:=kY hn;rw[hs];cases hb:Nat.ble (i+1) len with
     |false=>simp[hb] at hv
     |true=>
      simp only[hb,cond_true] at hv;have hle:=Nat.le_of_ble_eq_true hb;have hp:=BQ (P:=P) (ρ:=ρ) (w:=w) hg hk hv d1;refine cm ?_ hp.2;simp only[real,Instr.index,asIntOf,Sem.run_bind,Sem.run_pure,Result.andThen,run_underlying hu];rw[if_pos ⟨by omega,by omega⟩];simp[Sem.run_bind,run_sizeOf hk,Result.andThen,hp.1]
   |_=>rw[hr] at hv;simp[pI] at hv
  ·simp at hc
 ·simp at hc
theorem Av{x:Operand}{i:Nat}{p:sH}{rs:List bV}{v:AV}(he:cg ρ D n env a)(hc:one (.p (.ext i)) [x]=some (.p p,rs))(hv:pI p (rs.map env.ev)=some v):
  Ag P ρ D w (do pure (.value (←Instr.extract (a.eval x) i))) v:=by
 obtain⟨hq,r,rfl,e1,d1⟩:=ff he hc;simp only[gP.p.injEq] at hq;subst hq;simp only[List.map_cons,List.map_nil] at hv;rw[e1];cases hr:env.ev r with
 |cQ vs=>
  rw[hr] at hv d1;simp only[pI] at hv;simp only[AV.bq] at d1;refine cm ?_ ((aV D vs).1 d1 v (List.mem_of_getElem? hv));have:(aA ρ vs).toArray[i]?=some (real ρ v):=by rw[List.getElem?_toArray,eX,hv];rfl
  simp only[real,Instr.extract,this,Sem.run_pure]
 |_=>rw[hr] at hv;simp[pI] at hv
end
end Ads
end Go.Proofs.Ytepdklcpagielaa
set_option linter.unusedSimpArgs false
set_option linter.unusedVariables false
namespace Go.Proofs.Ytepdklcpagielaa
namespace Ads
section
variable {P:Program} {ρ:de} {D:Dom} {w:World} {n:Nat} {env:Env} {a:Act}
theorem gF{v:AV}{i y:Nat}{code:BoundsCode}(h:asNat v=some i)(hy:i≤y):(Instr.sliceBound (real ρ v) y code).run P w=.ok i w:=by
 obtain⟨k,rfl⟩:=kY h;rw[real,run_sliceBound w k (i:Int) y code (by omega) (by omega)];simp
theorem j9{isSlice:Bool}{len cap extra l h m:Nat}{lo hi mx:Option AV}(J1:mx.isSome=true→hi.isSome=true)
  (hb:bounds len cap lo.isSome hi.isSome mx.isSome (lo.toList++(hi.toList++mx.toList))=some (l,h,m)):
  (Instr.sliceBounds isSlice len (cap+extra) (lo.map (real ρ)) (hi.map (real ρ)) (mx.map (real ρ))).run P w=.ok (l,h,cond mx.isSome m (cap+extra)) w∧
  l≤h∧h≤m∧m≤cap∧(mx.isSome=false→m=cap):=by
 unfold bounds at hb;have fin:∀{l' h' m':Nat},(cond (Nat.ble l' h'&&Nat.ble h' m'&&Nat.ble m' cap) (some (l',h',m')) none:Option (Nat×Nat×Nat))=some (l,h,m)→
   l'=l∧h'=h∧m'=m∧l≤h∧h≤m∧m≤cap:=by
  intro l' h' m' e;cases hc:(Nat.ble l' h'&&Nat.ble h' m'&&Nat.ble m' cap) with
  |false=>simp[hc] at e
  |true=>
   simp only[hc,cond_true,Option.some.injEq,Prod.mk.injEq] at e;simp only[Bool.and_eq_true] at hc;have h1:=Nat.le_of_ble_eq_true hc.1.1;have h2:=Nat.le_of_ble_eq_true hc.1.2;have h3:=Nat.le_of_ble_eq_true hc.2;obtain⟨rfl,rfl,rfl⟩:=e;exact⟨rfl,rfl,rfl,h1,h2,h3⟩
 cases lo with
 |none=>
  cases hi with
  |none=>
   cases mx with
   |none=>
    simp at hb;obtain⟨rfl,rfl,rfl,h1,h2,h3⟩:=fin hb;refine⟨?_,h1,h2,h3,fun _=>rfl⟩;simp[Instr.sliceBounds,Result.andThen]
   |some mv=>simp at J1
  |some hv=>
   cases mx with
   |none=>
    simp at hb;cases hh:asNat hv with
    |none=>simp[hh] at hb
    |some h'=>
     simp[hh] at hb;obtain⟨rfl,rfl,rfl,h1,h2,h3⟩:=fin hb;refine⟨?_,h1,h2,h3,fun _=>rfl⟩;simp[Instr.sliceBounds,Result.andThen,gF (P:=P) (w:=w) (ρ:=ρ) hh (show h'≤cap+extra by omega)]
   |some mv=>
    simp at hb;cases hh:asNat hv with
    |none=>simp[hh] at hb
    |some h'=>
     cases hm:asNat mv with
     |none=>simp[hh,hm] at hb
     |some m'=>
      simp[hh,hm] at hb;obtain⟨rfl,rfl,rfl,h1,h2,h3⟩:=fin hb;refine⟨?_,h1,h2,h3,fun e=>by simp at e⟩;simp[Instr.sliceBounds,Result.andThen,gF (P:=P) (w:=w) (ρ:=ρ) hm (show m'≤cap+extra by omega),gF (P:=P) (w:=w) (ρ:=ρ) hh h2]
 |some lv=>
  cases hl:asNat lv with
  |none=>simp[hl] at hb
  |some l'=>
   cases hi with
   |none=>
    cases mx with
    |none=>
     simp[hl] at hb;obtain⟨rfl,rfl,rfl,h1,h2,h3⟩:=fin hb;refine⟨?_,h1,h2,h3,fun _=>rfl⟩;simp[Instr.sliceBounds,Result.andThen,gF (P:=P) (w:=w) (ρ:=ρ) hl h1]
    |some mv=>simp at J1
   |some hv=>
    cases mx with
    |none=>
     cases hh:asNat hv with
     |none=>simp[hl,hh] at hb
     |some h'=>
      simp[hl,hh] at hb;obtain⟨rfl,rfl,rfl,h1,h2,h3⟩:=fin hb;refine⟨?_,h1,h2,h3,fun _=>rfl⟩;simp[Instr.sliceBounds,Result.andThen,gF (P:=P) (w:=w) (ρ:=ρ) hl h1,gF (P:=P) (w:=w) (ρ:=ρ) hh (show h'≤cap+extra by omega)]
    |some mv=>
     cases hh:asNat hv with
     |none=>simp[hl,hh] at hb
     |some h'=>
      cases hm:asNat mv with
      |none=>simp[hl,hh,hm] at hb
      |some m'=>
       simp[hl,hh,hm] at hb;obtain⟨rfl,rfl,rfl,h1,h2,h3⟩:=fin hb;refine⟨?_,h1,h2,h3,fun e=>by simp at e⟩;simp[Instr.sliceBounds,Result.andThen,gF (P:=P) (w:=w) (ρ:=ρ) hl h1,gF (P:=P) (w:=w) (ρ:=ρ) hm (show m'≤cap+extra by omega),gF (P:=P) (w:=w) (ρ:=ρ) hh h2]
theorem rT(he:cg ρ D n env a){x:Operand}{lo hi mx:Option Operand}{rs:List bV}(h:tc [some x,lo,hi,mx]=some rs):
  ∃(v:AV) (l h m:Option AV),rs.map env.ev=v::(l.toList++(h.toList++m.toList))∧a.eval x=real ρ v∧v.bq D∧
   lo.map a.eval=l.map (real ρ)∧hi.map a.eval=h.map (real ρ)∧mx.map a.eval=m.map (real ρ)∧l.isSome=lo.isSome∧h.isSome=hi.isSome∧m.isSome=mx.isSome:=by
 unfold tc at h;have opt:∀(o:Option Operand) (r:List bV) (xs:List Operand),cO (o.toList++xs)=some r→∃(ov:Option AV) (r':List bV),cO xs=some r'∧r.map env.ev=ov.toList++r'.map env.ev∧
   o.map a.eval=ov.map (real ρ)∧ov.isSome=o.isSome:=by
  intro o r xs hr;cases o with
  |none=>exact⟨none,r,hr,by simp,rfl,rfl⟩
  |some y=>
   obtain⟨q,r',rfl,h1,h2⟩:=ee hr;exact⟨some (env.ev q),r',h2,by simp,by simp[(aM he h1).1],rfl⟩
 have e:([some x,lo,hi,mx]:List (Option Operand)).filterMap id=x::(lo.toList++(hi.toList++(mx.toList++[]))):=by
  cases lo<;>cases hi<;>cases mx<;>rfl
 rw[e] at h;obtain⟨q,r',rfl,h1,h2⟩:=ee h;obtain⟨l,r1,h3,e3,el,sl⟩:=opt lo _ _ h2;obtain⟨hh,r2,h4,e4,eh,sh⟩:=opt hi _ _ h3;obtain⟨m,r3,h5,e5,em,sm⟩:=opt mx _ _ h4;simp[cO] at h5;subst h5;refine⟨env.ev q,l,hh,m,?_,(aM he h1).1,(aM he h1).2,el,eh,em,sl,sh,sm⟩;simp only[List.map_cons];rw[e3,e4,e5];simp
theorem ES{t:TypeId}{x:Operand}{lo hi mx:Option Operand}{p:sH}{rs:List bV}{v:AV}(he:cg ρ D n env a)(hc:aH P (.slice t x lo hi mx)=some (.p p,rs))(hv:pI p (rs.map env.ev)=some v):
  Ag P ρ D w (do pure (.value (←Instr.sliceAt t (a.eval x) (lo.map a.eval) (hi.map a.eval) (mx.map a.eval)))) v:=by
 simp only[aH] at hc;split at hc
 ·simp at hc
 rename_i D8;have J1:mx.isSome=true→hi.isSome=true:=by
  intro h1;cases hi<;>simp_all
 split at hc
 ·rename_i e hu;split at hc
  ·rename_i size hs;simp only[Option.map_eq_some_iff] at hc;obtain⟨as,has,hq⟩:=hc;simp only[Prod.mk.injEq,gP.p.injEq] at hq;obtain⟨rfl,rfl⟩:=hq;obtain⟨xv,l,h,m,DM,ex,dx,el,eh,em,sl,sh,sm⟩:=rT he has;rw[DM,←sl,←sh,←sm] at hv;rw[←sh,←sm] at J1;rw[ex,el,eh,em];have LD:Instr.sliceAt t (real ρ xv) (l.map (real ρ)) (h.map (real ρ)) (m.map (real ρ))=(do
     match←underlying t with
     |.array n elem=>
      let a ←Instr.sureAddr (real ρ xv)
      let(l,h,m) ←Instr.sliceBounds false n n (l.map (real ρ)) (h.map (real ρ)) (m.map (real ρ))
      let size ←sizeOf elem
      pure (.slice (some (if m=l then a else a.add (l*size))) (h-l) (m-l))
     |_=>Instr.slice t (real ρ xv) (l.map (real ρ)) (h.map (real ρ)) (m.map (real ρ))):=rfl
   cases xv with
   |sl b o len cap kU=>
    simp only[pI] at hv;split at hv
    ·rename_i l' h' mm hb;have hr:=j9 (P:=P) (w:=w) (ρ:=ρ) (isSlice:=true) (extra:=cond kU (ρ b).extra 0) J1 hb;obtain⟨hrun,h1,h2,h3,h4⟩:=hr;cases hg:(Nat.beq mm l'&&Nat.beq cap mm&&(kU&&!m.isSome&&!Nat.beq l' 0)) with
     |true=>
      cases vM:m.isSome with
      |true=>rw[vM] at hg;simp at hg
      |false=>
       simp only[hg,cond_true,Option.some.injEq] at hv;subst hv;simp only[Bool.and_eq_true] at hg;obtain⟨⟨g1,g2⟩,⟨rfl,-⟩,-⟩:=hg;have g1:=Nat.eq_of_beq_eq_true g1;have g2:=Nat.eq_of_beq_eq_true g2;have gl:l'=cap:=by omega
       have gh:h'=cap:=by omega
       have gm:mm=cap:=by omega
       refine cm ?_ (by simpa[AV.bq] using dx);rw[LD,Sem.run_bind,run_underlying hu];simp only[Result.andThen,real,Instr.slice,Sem.run_bind,run_underlying hu];simp only[cond_true,vM,cond_false] at hrun;simp only[cond_true];rw[hrun];simp only[Result.andThen,run_sizeOf hs,Sem.run_pure];simp only[gl,gh,vM,cond_false]
       congr 1
       cases hex:(ρ b).extra with
       |zero=>simp
       |succ x=>
        have hnb:Nat.beq (x+1) 0=false:=rfl;rw[if_neg (by omega)];simp only[hnb,cond_false,Option.map_some,gn,Nat.sub_self]
        congr 1
        omega
     |false=>
      simp only[hg,cond_false,Option.some.injEq] at hv;subst hv;refine cm ?_ (by simpa[AV.bq] using dx);rw[LD,Sem.run_bind,run_underlying hu];simp only[Result.andThen,real,Instr.slice,Sem.run_bind,run_underlying hu];rw[show(cond kU (cap+(ρ b).extra) cap)=cap+cond kU (ρ b).extra 0 by cases kU<;>simp];rw[hrun];simp only[Result.andThen,run_sizeOf hs,Sem.run_pure]
      congr 1
      cases hm:m.isSome with
      |true=>
       simp only[cond_true,cond_false];by_cases vL:mm=l'
       ·have:Nat.beq mm l'=true:=by rw[vL];exact Nat.beq_refl _
        simp[vL]
       ·have:Nat.beq mm l'=false:=by
         cases Bx:Nat.beq mm l' with
         |false=>rfl
         |true=>exact absurd (Nat.eq_of_beq_eq_true Bx) vL
        simp[vL,this,gn]
      |false=>
       have hmc:=h4 hm;subst hmc;simp only[cond_false];cases kU with
       |false=>
        simp only[cond_false,Nat.add_zero];by_cases vL:mm=l'
        ·simp[vL]
        ·have:Nat.beq mm l'=false:=by
          cases Bx:Nat.beq mm l' with
          |false=>rfl
          |true=>exact absurd (Nat.eq_of_beq_eq_true Bx) vL
         simp[vL,this,gn]
       |true=>
        by_cases JZ:l'=0
        ·subst JZ;have Ns:cond (Nat.beq mm 0) 0 0=0:=by cases Nat.beq mm 0<;>rfl
         simp only[cond_true,Nat.zero_mul,Ns,Nat.add_zero,Nat.sub_zero,Option.map_some];split
         ·rfl
         ·rfl
        ·have hlb:Nat.beq l' 0=false:=by
          cases hq:Nat.beq l' 0 with
          |false=>rfl
          |true=>exact absurd (Nat.eq_of_beq_eq_true hq) JZ
         simp only[Nat.beq_refl,Bool.and_true,hlb,hm,Bool.not_false,Bool.and_self] at hg;have hne:mm≠l':=by
          intro e;rw[e,Nat.beq_refl] at hg;simp at hg
         simp only[cond_true];rw[if_neg (by omega)];simp only[hg,cond_false,Option.map_some,gn]
         congr 1
         omega
    ·simp at hv
   |rest b o j=>
    simp only[pI] at hv;split at hv
    ·rename_i q hb;obtain⟨l',h',mm⟩:=q;cases vM:m.isSome with
     |true=>rw[vM] at hv;simp at hv
     |false=>
      rw[vM] at hv;simp only[cond_false,Option.some.injEq] at hv;subst hv;obtain⟨hrun,h1,h2,h3,h4⟩:=j9 (P:=P) (w:=w) (ρ:=ρ) (isSlice:=true) (extra:=(ρ b).extra) J1 hb;have gl:l'=0:=by omega
      have gh:h'=0:=by omega
      rw[gl,gh] at hrun;simp only[vM,cond_false,Nat.zero_add] at hrun;refine cm ?_ (by simpa[AV.bq] using dx);rw[LD,Sem.run_bind,run_underlying hu];simp only[Result.andThen,real,Instr.slice,Sem.run_bind,run_underlying hu];rw[hrun];simp only[Result.andThen,run_sizeOf hs,Sem.run_pure,Nat.zero_mul,Nat.sub_zero]
      congr 1
      split
      ·rfl
      ·simp[gn]
    ·simp at hv
   |aD=>
    simp only[pI] at hv;split at hv
    ·rename_i q hb;obtain⟨l',h',mm⟩:=q;simp only[Option.some.injEq] at hv;subst hv;have hr:=j9 (P:=P) (w:=w) (ρ:=ρ) (isSlice:=true) (extra:=0) J1 hb;obtain⟨hrun,h1,h2,h3,h4⟩:=hr;refine cm ?_ (by simp[AV.bq]);rw[LD,Sem.run_bind,run_underlying hu];simp only[Result.andThen,real,Instr.slice,Sem.run_bind,run_underlying hu];simp only[Nat.add_zero] at hrun;rw[hrun];simp only[Result.andThen,run_sizeOf hs,Sem.run_pure];have hm0:mm=0:=by omega
     have hh0:h'=0:=by omega
     have JZ:l'=0:=by omega
     subst hm0 hh0 JZ;cases m.isSome<;>simp
    ·simp at hv
   |gO wa=>
    simp only[pI] at hv;split at hv
    ·rename_i q hb;obtain⟨l',h',mm⟩:=q;simp only[Option.some.injEq] at hv;subst hv;have hr:=j9 (P:=P) (w:=w) (ρ:=ρ) (isSlice:=true) (extra:=0) J1 hb;obtain⟨hrun,h1,h2,h3,h4⟩:=hr;refine cm ?_ (by simp[AV.bq]);rw[LD,Sem.run_bind,run_underlying hu];simp only[Result.andThen,real,Instr.slice,Sem.run_bind,run_underlying hu];simp only[Nat.add_zero] at hrun;rw[hrun];simp only[Result.andThen,run_sizeOf hs,Sem.run_pure];have hm0:mm=0:=by omega
     have hh0:h'=0:=by omega
     have JZ:l'=0:=by omega
     subst hm0 hh0 JZ;cases m.isSome<;>simp
    ·simp at hv
   |_=>simp[pI] at hv
  ·simp at hc
 ·rename_i hu;split at hc
  ·simp at hc
  rename_i hmn;have abH:mx=none:=by cases mx<;>simp_all
  subst abH;simp only[Option.map_eq_some_iff] at hc;obtain⟨as,has,hq⟩:=hc;simp only[Prod.mk.injEq,gP.p.injEq] at hq;obtain⟨rfl,rfl⟩:=hq;have aa8:tc [some x,lo,hi,none]=some as:=has;obtain⟨xv,l,h,m,DM,ex,dx,el,eh,em,sl,sh,sm⟩:=rT he aa8;have hm:m=none:=by cases m<;>simp_all
  subst hm;rw[DM,←sl,←sh] at hv;rw[ex,el,eh];cases xv with
  |str s=>
   simp only[pI] at hv;split at hv
   ·rename_i l' h' mm hb;simp only[Option.some.injEq] at hv;subst hv;have hr:=j9 (P:=P) (w:=w) (ρ:=ρ) (isSlice:=false) (extra:=0) (lo:=l) (hi:=h) (mx:=none) (by simp) hb;obtain⟨hrun,h1,h2,h3,h4⟩:=hr;refine cm ?_ (by simp[AV.bq]);simp only[Instr.sliceAt,Sem.run_bind,run_underlying hu,Result.andThen,real,Instr.slice,Option.map_none,Option.isSome_none,Bool.false_eq_true,if_false,Sem.run_pure];simp only[Nat.add_zero,Option.map_none] at hrun;rw[show(⟨s.toArray⟩:ByteArray).size=s.length by simp[ByteArray.size],hrun];simp only[Result.andThen]
    congr 2
    apply ByteArray.ext;rw[ByteArray.data_extract];apply Array.ext';simp[List.extract_eq_take_drop];rw[List.drop_take]
   ·simp at hv
  |_=>simp[pI] at hv
 ·rename_i len e hu;split at hc
  ·rename_i size hs;simp only[Option.map_eq_some_iff] at hc;obtain⟨as,has,hq⟩:=hc;simp only[Prod.mk.injEq,gP.p.injEq] at hq;obtain⟨rfl,rfl⟩:=hq;obtain⟨xv,l,h,m,DM,ex,dx,el,eh,em,sl,sh,sm⟩:=rT he has;rw[DM,←sl,←sh,←sm] at hv;rw[←sh,←sm] at J1;rw[ex,el,eh,em];cases xv with
   |ptr b o=>
    simp only[pI] at hv;split at hv
    ·rename_i l' h' mm hb;simp only[Option.some.injEq] at hv;subst hv;have hr:=j9 (P:=P) (w:=w) (ρ:=ρ) (isSlice:=false) (extra:=0) J1 hb;obtain⟨hrun,h1,h2,h3,h4⟩:=hr;refine cm ?_ (by simpa[AV.bq] using dx);simp only[Nat.add_zero] at hrun;simp only[Instr.sliceAt,Sem.run_bind,run_underlying hu,Result.andThen,real,Instr.sureAddr,Sem.run_pure];rw[hrun];simp only[Result.andThen,run_sizeOf hs,Sem.run_pure];have hmm:cond m.isSome mm len=mm:=by
      cases hm:m.isSome with
      |true=>rfl
      |false=>exact(h4 hm).symm
     rw[hmm]
     congr 2
     by_cases vL:mm=l'
     ·simp[vL]
     ·have:Nat.beq mm l'=false:=by
       cases Bx:Nat.beq mm l' with
       |false=>rfl
       |true=>exact absurd (Nat.eq_of_beq_eq_true Bx) vL
      simp[vL,this,gn]
    ·simp at hv
   |_=>simp[pI] at hv
  ·simp at hc
 ·simp at hc
end
end Ads
end Go.Proofs.Ytepdklcpagielaa
set_option linter.unusedSimpArgs false
set_option linter.unusedVariables false
namespace Go.Proofs.Ytepdklcpagielaa
namespace Ads
section
variable {P:Program} {ρ:de} {D:Dom} {w:World} {n:Nat} {env:Env} {a:Act}
theorem GU{u:UnOp}{t:TypeId}{x:Operand}{p:sH}{rs:List bV}{v:AV}(he:cg ρ D n env a)(hc:aH P (.unOp u t x)=some (.p p,rs))(hv:pI p (rs.map env.ev)=some v):
  Ag P ρ D w (do pure (.value (←Op.unary u (a.eval x)))) v:=by
 cases u<;>simp only[aH] at hc
 case not=>
  obtain⟨hq,r,rfl,e1,d1⟩:=ff he hc;simp only[gP.p.injEq] at hq;subst hq;simp only[List.map_cons,List.map_nil] at hv;rw[e1];cases hr:env.ev r with
  |bool b=>
   rw[hr] at hv;simp only[pI,Option.some.injEq] at hv;subst hv;exact cm (by simp[Op.unary,real]) (by simp[AV.bq])
  |_=>rw[hr] at hv;simp[pI] at hv
 case neg=>
  obtain⟨hq,r,rfl,e1,d1⟩:=ff he hc;simp only[gP.p.injEq] at hq;subst hq;simp only[List.map_cons,List.map_nil] at hv;rw[e1];cases hr:env.ev r with
  |int k m=>
   rw[hr] at hv;simp only[pI,Option.some.injEq] at hv;subst hv;exact cm (by simp[Op.unary,Op.intArith,real]) (by simp[AV.bq])
  |_=>rw[hr] at hv;simp[pI] at hv
 all_goals simp at hc
theorem AG{t:TypeId}{x:Operand}{p:sH}{rs:List bV}{v:AV}(he:cg ρ D n env a)(hc:aH P (.makeInterface t x)=some (.p p,rs))(hv:pI p (rs.map env.ev)=some v):
  Ag P ρ D w (do pure (.value (←Instr.makeInterface t (a.eval x)))) v:=by
 simp only[aH] at hc;split at hc
 ·simp at hc
 ·rename_i d hni hu;obtain⟨hq,r,rfl,e1,d1⟩:=ff he hc;simp only[gP.p.injEq] at hq;subst hq;simp only[List.map_cons,List.map_nil,pI,Option.some.injEq] at hv;subst hv;rw[e1];refine cm ?_ (by simpa[AV.bq] using d1);unfold Instr.makeInterface;rw[Sem.run_bind,run_underlying hu];simp only[Result.andThen];simp[real]
 ·simp at hc
theorem CI{fn:Fn}{first aN:Array Operand}{p:sH}{rs:List bV}{v:AV}(he:cg ρ D n env a)(hc:aH P (.makeFunc fn first aN)=some (.p p,rs))(hv:pI p (rs.map env.ev)=some v):
  Ag P ρ D w (do pure (.value (←Instr.makeFunc fn (first.map a.eval) (aN.map a.eval)))) v:=by
 simp only[aH] at hc;split at hc
 ·simp at hc
 ·rename_i hny;obtain⟨rs',h1,h2⟩:=bD hc;simp only[Prod.mk.injEq,gP.p.injEq] at h2;obtain⟨rfl,rfl⟩:=h2;simp only[pI,Option.some.injEq] at hv;subst hv;have hr:=iU he h1;have hlen:(rs.map env.ev).length=first.toList.length+aN.toList.length:=by
   have:=congrArg List.length hr.1;simp[aU] at this⊢;omega
  have hd:=(aV D _).1 hr.2;refine cm ?_ ?_
  ·simp only[Instr.makeFunc,Sem.run_pure,real,zx,zw,←hr.1]
   congr 2
   ·apply Array.ext';simp
   ·apply Array.ext';simp
  ·simp only[AV.bq,aV];exact⟨hny,fun x hx=>hd x (List.mem_of_mem_take hx),fun x hx=>hd x (List.mem_of_mem_drop hx)⟩
theorem AN{t xt:TypeId}{x:Operand}{ok:Bool}{p:sH}{rs:List bV}{v:AV}(he:cg ρ D n env a)(hc:aH P (.typeAssert x xt t ok)=some (.p p,rs))(hv:pI p (rs.map env.ev)=some v):
  Ag P ρ D w (do pure (.value (←Instr.typeAssert (a.eval x) xt t ok))) v:=by
 simp only[aH] at hc;split at hc
 ·simp at hc
 ·rename_i d dx hni hu hux;simp only[Option.bind_eq_some_iff] at hc;obtain⟨z,hz,hc⟩:=hc;obtain⟨hq,r,rfl,e1,d1⟩:=ff he hc;simp only[gP.p.injEq] at hq;subst hq;simp only[List.map_cons,List.map_nil] at hv;rw[e1];have AD:=dH (P:=P) (w:=w) hz ρ D;have key:∀(xv:Value),(Instr.typeAssert xv xt t ok).run P w=(match xv with
    |.nilIface=>(if ok then(do pure (.tuple #[←zeroValue t,.bool false]):Sem Value) else runtimePanic (.typeAssertion (some xt) none t "")).run P w
    |.iface u y=>if u=t then(pure (if ok then .tuple #[y,.bool true] else y):Sem Value).run P w else(if ok then(do pure (.tuple #[←zeroValue t,.bool false]):Sem Value) else runtimePanic (.typeAssertion (some xt) (some u) t "")).run P w
    |_=>(Instr.typeAssert xv xt t ok).run P w):=by
   intro xv;cases xv with
   |nilIface=>
    unfold Instr.typeAssert;rw[Sem.run_bind,run_underlying hu];try simp only[Result.andThen]
    all_goals (cases d<;>first|(exfalso;exact hni _ rfl)|rfl|(split<;>rfl))
   |iface u y=>
    unfold Instr.typeAssert;rw[Sem.run_bind,run_underlying hu];try simp only[Result.andThen]
    all_goals (cases d<;>first|(exfalso;exact hni _ rfl)|rfl|(split<;>rfl))
   |_=>rfl
  cases hr:env.ev r with
  |iface u y=>
   rw[hr] at hv d1;simp only[pI] at hv;simp only[AV.bq] at d1;cases hb:Nat.beq u t with
   |true=>
    have Zi:=Nat.eq_of_beq_eq_true hb;simp only[hb,cond_true] at hv;cases ok with
    |true=>
     simp only[cond_true,Option.some.injEq] at hv;subst hv;refine cm ?_ (by simp[AV.bq,bE,d1]);simp[key,real,aA,Zi]
    |false=>
     simp only[cond_false,Option.some.injEq] at hv;subst hv;refine cm ?_ d1;simp[key,real,Zi]
   |false=>
    have Zi:u≠t:=fun e=>by rw[e,Nat.beq_refl] at hb;simp at hb
    simp only[hb,cond_false] at hv;cases ok with
    |true=>
     simp only[cond_true,Option.some.injEq] at hv;subst hv;refine cm ?_ (by simp[AV.bq,bE,AD.2]);simp[key,real,aA,Zi,AD.1,Result.andThen]
    |false=>simp at hv
  |kr=>
   rw[hr] at hv;simp only[pI] at hv;cases ok with
   |true=>
    simp only[cond_true,Option.some.injEq] at hv;subst hv;refine cm ?_ (by simp[AV.bq,bE,AD.2]);simp[key,real,aA,AD.1,Result.andThen]
   |false=>simp at hv
  |_=>rw[hr] at hv;simp[pI] at hv
 ·simp at hc
theorem Bu:∀(r:List AV) (x v:AV),mQ max2 x r=some v→((aA ρ r).foldlM Builtin.max2 (real ρ x)).run P w=.ok (real ρ v) w∧(x.bq D→v.bq D)
 |[],x,v,h=>by simp[mQ] at h;subst h;simp[aA]
 |y::r,x,v,h=>by
  simp only[mQ] at h;cases hz:max2 x y with
  |none=>simp[hz] at h
  |some z=>
   simp only[hz] at h;have ih:=Bu r z v h;simp only[aA,List.foldlM_cons,Sem.run_bind];cases x<;>cases y<;>simp[max2] at hz
   subst hz;refine⟨?_,fun _=>ih.2 (by simp[AV.bq])⟩;rw[←ih.1];simp only[real,Builtin.max2,Sem.run_pure,Result.andThen]
   congr 2
   rename_i k p k' q;by_cases hpq:q>p<;>simp[hpq]
theorem Bv:∀(r:List AV) (x v:AV),mQ min2 x r=some v→((aA ρ r).foldlM Builtin.min2 (real ρ x)).run P w=.ok (real ρ v) w∧(x.bq D→v.bq D)
 |[],x,v,h=>by simp[mQ] at h;subst h;simp[aA]
 |y::r,x,v,h=>by
  simp only[mQ] at h;cases hz:min2 x y with
  |none=>simp[hz] at h
  |some z=>
   simp only[hz] at h;have ih:=Bv r z v h;simp only[aA,List.foldlM_cons,Sem.run_bind];cases x<;>cases y<;>simp[min2] at hz
   subst hz;refine⟨?_,fun _=>ih.2 (by simp[AV.bq])⟩;rw[←ih.1];simp only[real,Builtin.min2,Sem.run_pure,Result.andThen]
   congr 2
   rename_i k p k' q;by_cases hpq:q<p<;>simp[hpq]
theorem jd(o:Oper)(c:Call)(b:Builtin)(ho:o.op=.call c)(hb:c.callee=.builtin b):
  execOp a.eval o=builtin b c.argTypes o.type (c.args.map fun|.const _=>true|_=>false) (c.args.map a.eval):=by
 unfold execOp;rw[ho];simp only[resolve,hb];rfl
theorem eZ{c:Call}{xs:List Operand}{ys:List Value}(h:c.args.toList=xs)(e:xs.map a.eval=ys):c.args.map a.eval=ys.toArray:=by
 apply Array.ext';rw[Array.toList_map,h,e]
theorem pR{c:Call}{ts:List TypeId}(h:c.argTypes.toList=ts):c.argTypes=ts.toArray:=by
 apply Array.ext';rw[h]
theorem Aq{o:Oper}{c:Call}{p:sH}{rs:List bV}{v:AV}(he:cg ρ D n env a)(ho:o.op=.call c)(hc:aH P (.call c)=some (.p p,rs))(hv:pI p (rs.map env.ev)=some v):
  Ag P ρ D w (execOp a.eval o) v:=by
 simp only[aH] at hc;split at hc
 ·rename_i f _;simp only[Option.map_eq_some_iff] at hc;obtain⟨_,_,h2⟩:=hc;simp at h2
 ·simp only[Option.map_eq_some_iff] at hc;obtain⟨_,_,h2⟩:=hc;simp at h2
 ·rename_i b hcb;rw[jd o c b ho hcb];split at hc
  ·rename_i x t hargs fI;rw[pR fI];split at hc
   ·rename_i e hu;obtain⟨hq,r,rfl,e1,d1⟩:=ff he hc;simp only[gP.p.injEq] at hq;subst hq;rw[eZ hargs (ys:=[real ρ (env.ev r)]) (by simp[e1])];simp only[List.map_cons,List.map_nil] at hv;cases hr:env.ev r with
    |sl b o len cap kU=>
     rw[hr] at hv;simp only[pI,Option.some.injEq] at hv;subst hv;refine cm ?_ (by simp[AV.bq]);simp[Builtin.len_,run_underlying hu,Result.andThen,real,goInt]
    |aD=>
     rw[hr] at hv;simp only[pI,Option.some.injEq] at hv;subst hv;refine cm ?_ (by simp[AV.bq]);simp[Builtin.len_,run_underlying hu,Result.andThen,real,goInt]
    |gO a=>
     rw[hr] at hv;simp only[pI,Option.some.injEq] at hv;subst hv;refine cm ?_ (by simp[AV.bq]);simp[Builtin.len_,run_underlying hu,Result.andThen,real,goInt]
    |rest b o k=>
     rw[hr] at hv;simp only[pI,Option.some.injEq] at hv;subst hv;refine cm ?_ (by simp[AV.bq]);simp[Builtin.len_,run_underlying hu,Result.andThen,real,goInt]
    |_=>rw[hr] at hv;simp[pI] at hv
   ·rename_i hu;obtain⟨hq,r,rfl,e1,d1⟩:=ff he hc;simp only[gP.p.injEq] at hq;subst hq;rw[eZ hargs (ys:=[real ρ (env.ev r)]) (by simp[e1])];simp only[List.map_cons,List.map_nil] at hv;cases hr:env.ev r with
    |str s=>
     rw[hr] at hv;simp only[pI,Option.some.injEq] at hv;subst hv;refine cm ?_ (by simp[AV.bq]);have hsz:(⟨s.toArray⟩:ByteArray).size=s.length:=by simp only[ByteArray.size,List.size_toArray]
     simp[Builtin.len_,run_underlying hu,Result.andThen,real,goInt,hsz,-ByteArray.size_data]
    |_=>rw[hr] at hv;simp[pI] at hv
   ·rename_i k e hu;obtain⟨hq,r,rfl,e1,d1⟩:=ff he hc;simp only[gP.p.injEq] at hq;subst hq;rw[eZ hargs (ys:=[real ρ (env.ev r)]) (by simp[e1])];simp only[List.map_cons,List.map_nil,pI,Option.some.injEq] at hv;subst hv;refine cm ?_ (by simp[AV.bq]);simp[Builtin.len_,run_underlying hu,Result.andThen,real,goInt]
   ·obtain⟨hq,_⟩:=ff he hc;simp at hq
   ·rename_i arr hu;split at hc
    ·rename_i k e hu2;obtain⟨hq,r,rfl,e1,d1⟩:=ff he hc;simp only[gP.p.injEq] at hq;subst hq;rw[eZ hargs (ys:=[real ρ (env.ev r)]) (by simp[e1])];simp only[List.map_cons,List.map_nil,pI,Option.some.injEq] at hv;subst hv;refine cm ?_ (by simp[AV.bq]);simp[Builtin.len_,run_underlying hu,run_underlying hu2,Result.andThen,real,goInt]
    ·simp at hc
   ·simp at hc
  ·rename_i x xs ts hargs;obtain⟨rs',h1,h2⟩:=bD hc;simp only[Prod.mk.injEq,gP.p.injEq] at h2;obtain⟨rfl,rfl⟩:=h2;obtain⟨r,rs2,rfl,xX,Aj⟩:=ee h1;have e1:=aM he xX;have e2:=iU he Aj;rw[eZ hargs (ys:=real ρ (env.ev r)::aA ρ (rs2.map env.ev)) (by simp[e1.1,←e2.1])];simp only[List.map_cons,pI] at hv;have:=Bu (P:=P) (w:=w) (D:=D) (ρ:=ρ) _ _ _ hv;refine cm ?_ (this.2 e1.2);simpa[Builtin.max_] using this.1
  ·rename_i x xs ts hargs;obtain⟨rs',h1,h2⟩:=bD hc;simp only[Prod.mk.injEq,gP.p.injEq] at h2;obtain⟨rfl,rfl⟩:=h2;obtain⟨r,rs2,rfl,xX,Aj⟩:=ee h1;have e1:=aM he xX;have e2:=iU he Aj;rw[eZ hargs (ys:=real ρ (env.ev r)::aA ρ (rs2.map env.ev)) (by simp[e1.1,←e2.1])];simp only[List.map_cons,pI] at hv;have:=Bv (P:=P) (w:=w) (D:=D) (ρ:=ρ) _ _ _ hv;refine cm ?_ (this.2 e1.2);simpa[Builtin.min_] using this.1
  ·split at hc
   ·split at hc
    ·simp at hc
    ·split at hc
     ·split at hc
      ·simp at hc
      ·obtain⟨hq,_⟩:=sY he hc;simp at hq
     ·simp at hc
   ·simp at hc
  ·split at hc
   ·simp only[Option.bind_eq_some_iff] at hc;obtain⟨k,hk,hc⟩:=hc;obtain⟨hq,_⟩:=sY he hc;simp at hq
   ·simp at hc
  ·split at hc
   ·simp only[Option.bind_eq_some_iff] at hc;obtain⟨k,hk,hc⟩:=hc;obtain⟨hq,_⟩:=ff he hc;simp at hq
   ·obtain⟨hq,_⟩:=ff he hc;simp at hq
   ·simp at hc
  ·split at hc
   ·split at hc
    ·obtain⟨_,_,h2⟩:=bD hc;simp at h2
    ·simp at hc
   ·simp at hc
  ·simp at hc
theorem zm{o:Oper}{p:sH}{rs:List bV}{v:AV}(he:cg ρ D n env a)(hc:aH P o.op=some (.p p,rs))(hv:pI p (rs.map env.ev)=some v):
  Ag P ρ D w (execOp a.eval o) v:=by
 have fh:=hc;cases ho:o.op<;>rw[ho] at hc
 case move x=>
  have:=ze he hc hv;unfold execOp;rw[ho];exact⟨by simp only[Sem.run_pure];rw[this.1],this.2⟩
 case assign x=>
  have:=ze he hc hv;unfold execOp;rw[ho];exact⟨by simp only[Sem.run_pure];rw[this.1],this.2⟩
 case pick c x y=>
  unfold execOp;rw[ho];exact Gr he hc hv
 case build t ps=>
  unfold execOp;rw[ho];exact Dx he hc hv
 case nilCheck x=>exact zh he o ho hc hv
 case binOp op t x y yt=>exact Du he ho fh hv
 case unOp u t x=>
  unfold execOp;rw[ho];exact GU he hc hv
 case convert s d x=>
  unfold execOp;rw[ho];exact Fy he hc hv
 case makeInterface t x=>
  unfold execOp;rw[ho];exact AG he hc hv
 case makeFunc fn f c=>
  unfold execOp;rw[ho];exact CI he hc hv
 case slice t x lo hi mx=>
  unfold execOp;rw[ho];exact ES he hc hv
 case fieldAddr t x i=>
  unfold execOp;rw[ho];exact xM he hc hv
 case field t x i=>
  unfold execOp;rw[ho];exact DQ he hc hv
 case indexAddr t x y=>
  unfold execOp;rw[ho];exact xQ he hc hv
 case index t x y=>
  unfold execOp;rw[ho];exact Eg he hc hv
 case typeAssert x xt t ok=>
  unfold execOp;rw[ho];exact AN he hc hv
 case extract x i=>
  unfold execOp;rw[ho];exact Av he hc hv
 case call c=>exact Aq he ho hc hv
 case makeMap t r=>
  exfalso;cases r with
  |none=>
   simp only[aH] at hc;obtain⟨_,_,h2⟩:=bD hc;simp at h2
  |some r=>simp[aH] at hc
 case next it s=>
  exfalso;cases s with
  |true=>simp[aH] at hc
  |false=>
   simp only[aH] at hc;obtain⟨_,_,h2⟩:=bD hc;simp at h2
 all_goals (exfalso;simp only[aH] at hc)
 all_goals repeat' (first
  |(simp only[Option.bind_eq_some_iff] at hc;obtain⟨_,_,hc⟩:=hc)
  |(simp only[Option.map_eq_some_iff] at hc;obtain⟨_,_,hc⟩:=hc;simp at hc;done)
  |(obtain⟨_,_,h2⟩:=bD hc;simp at h2;done)
  |(simp at hc;done)
  |(split at hc))
end
end Ads
end Go.Proofs.Ytepdklcpagielaa
