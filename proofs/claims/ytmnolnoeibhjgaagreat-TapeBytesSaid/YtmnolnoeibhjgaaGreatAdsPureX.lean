/-
  Operations that look at no memory: what the model runs is what 'pI' says.
  Operations that look at no memory, one by one: what the model runs is what 'pI' says.
  What the model runs of an operation without memory is what 'pI' says: all of them.
  The other operations without memory.
  Slices, interfaces, functions' values, len, max, min; all operations without memory together.
  All operations without memory together.
-/
import Derived.Test.YtmnolnoeibhjgaaGreatAdsStep
namespace Go.Proofs.YtmnolnoeibhjgaaGreat
namespace Ads
section
variable {P:Program} {H0:Nat} {ρ:cG} {D:Dom} {h:Heap} {w:World}
structure bG(ρ:cG)(D:Dom)(n:Nat)(env:Env)(a:Act):Prop where
 size:a.tmps.size=n
 get:∀i,a.tmps.getD i Go.undef=real ρ (env.get i)
 dom:∀i,(env.get i).aW D
mutual
theorem pR(ρ:cG)(D:Dom):∀(f:Nat) (v:Value) (x:AV),jl f v=some x→real ρ x=v∧x.aW D
 |0,_,_,h=>by simp[jl] at h
 |f+1,v,x,h=>by
  cases v with
  |bool b=>simp[jl] at h;subst h;simp[real,AV.aW]
  |int k n=>simp[jl] at h;subst h;simp[real,AV.aW]
  |float k b=>simp[jl] at h
  |complex k a b=>simp[jl] at h
  |string s=>simp[jl] at h;subst h;cases s;simp[real,AV.aW]
  |pointer a=>
   cases a with
   |none=>simp[jl] at h;subst h;simp[real,AV.aW]
   |some a=>simp[jl] at h
  |slice a l c=>
   cases a with
   |some a=>simp[jl] at h
   |none=>
    cases l with
    |succ l=>simp[jl] at h
    |zero=>
     cases c with
     |succ c=>simp[jl] at h
     |zero=>simp[jl] at h;subst h;simp[real,AV.aW]
  |map r=>
   cases r with
   |none=>simp[jl] at h;subst h;simp[real,AV.aW]
   |some a=>simp[jl] at h
  |chan r=>simp[jl] at h
  |func fn a c=>
   cases fn with
   |func g=>
    simp only[jl] at h;cases ha:og f a.toList with
    |none=>simp[ha] at h
    |some xs=>
     cases hc:og f c.toList with
     |none=>simp[ha,hc] at h
     |some ys=>
      simp[ha,hc] at h;subst h;have h1:=kZ ρ D f _ _ ha;have h2:=kZ ρ D f _ _ hc;simp[real,AV.aW,h1,h2]
   |_=>simp[jl] at h
  |nilFunc=>simp[jl] at h;subst h;simp[real,AV.aW]
  |iface t v=>
   simp only[jl,Option.map_eq_some_iff] at h;obtain⟨y,hy,rfl⟩:=h;have:=pR ρ D f v y hy;simp[real,AV.aW,this]
  |nilIface=>simp[jl] at h;subst h;simp[real,AV.aW]
  |agg cs=>
   simp only[jl,Option.map_eq_some_iff] at h;obtain⟨y,hy,rfl⟩:=h;have:=kZ ρ D f _ y hy;simp[real,AV.aW,this]
  |tuple cs=>
   simp only[jl,Option.map_eq_some_iff] at h;obtain⟨y,hy,rfl⟩:=h;have:=kZ ρ D f _ y hy;simp[real,AV.aW,this]
theorem kZ(ρ:cG)(D:Dom):∀(f:Nat) (l:List Value) (xs:List AV),og f l=some xs→aq ρ xs=l∧bl D xs
 |0,_,_,h=>by simp[og] at h
 |f+1,[],xs,h=>by simp[og] at h;subst h;simp[aq,bl]
 |f+1,v::vs,xs,h=>by
  simp only[og] at h;cases ha:jl f v with
  |none=>simp[ha] at h
  |some y=>
   cases hc:og f vs with
   |none=>simp[ha,hc] at h
   |some ys=>
    simp[ha,hc] at h;subst h;have h1:=pR ρ D f _ _ ha;have h2:=kZ ρ D f _ _ hc;simp[aq,bl,h1,h2]
end
variable {n:Nat} {env:Env} {a:Act}
theorem aG(he:bG ρ D n env a){x:Operand}{r:bx}(hr:dr x=some r):a.eval x=real ρ (env.ev r)∧(env.ev r).aW D:=by
 cases x with
 |tmp t=>simp[dr] at hr;subst hr;exact⟨he.get t,he.dom t⟩
 |const v=>
  simp only[dr,Option.map_eq_some_iff] at hr;obtain⟨y,hy,rfl⟩:=hr;have:=pR ρ D _ v y hy;exact⟨this.1.symm,this.2⟩
 |global g=>simp[dr] at hr
 |func f=>simp[dr] at hr;subst hr;simp[Act.eval,Env.ev,real,aq,AV.aW,bl]
theorem gH(he:bG ρ D n env a):∀{xs:List Operand} {rs:List bx},ck xs=some rs→xs.map a.eval=aq ρ (rs.map env.ev)∧bl D (rs.map env.ev)
 |[],rs,h=>by simp[ck] at h;subst h;simp[aq,bl]
 |x::xs,rs,h=>by
  simp only[ck] at h;cases h1:dr x with
  |none=>simp[h1] at h
  |some r=>
   cases h2:ck xs with
   |none=>simp[h1,h2] at h
   |some rs'=>
    simp[h1,h2] at h;subst h;have e1:=aG he h1;have e2:=gH he h2;simp only[List.map_cons,aq,bl];exact⟨by rw[e1.1,e2.1],e1.2,e2.2⟩
theorem eX{x:Operand}{rs:List bx}(h:ck [x]=some rs):∃r,rs=[r]∧dr x=some r:=by
 simp only[ck] at h;cases h1:dr x with
 |none=>simp[h1] at h
 |some r=>simp[h1] at h;exact⟨r,h.symm,rfl⟩
theorem dw{x:Operand}{xs:List Operand}{rs:List bx}(h:ck (x::xs)=some rs):∃r rs',rs=r::rs'∧dr x=some r∧ck xs=some rs':=by
 simp only[ck] at h;cases h1:dr x with
 |none=>simp[h1] at h
 |some r=>
  cases h2:ck xs with
  |none=>simp[h1,h2] at h
  |some rs'=>simp[h1,h2] at h;exact⟨r,rs',h.symm,rfl,rfl⟩
theorem fN{x y:Operand}{rs:List bx}(h:ck [x,y]=some rs):∃r s,rs=[r,s]∧dr x=some r∧dr y=some s:=by
 obtain⟨r,rs',rfl,h1,h2⟩:=dw h;obtain⟨s,rfl,h3⟩:=eX h2;exact⟨r,s,rfl,h1,h3⟩
theorem pn{x y z:Operand}{rs:List bx}(h:ck [x,y,z]=some rs):∃r s t,rs=[r,s,t]∧dr x=some r∧dr y=some s∧dr z=some t:=by
 obtain⟨r,rs',rfl,h1,h2⟩:=dw h;obtain⟨s,t,rfl,h3⟩:=fN h2;exact⟨r,s,t,rfl,h1,h3⟩
theorem bh{op:fG}{xs:List Operand}{p:fG×List bx}(h:one op xs=some p):∃rs,ck xs=some rs∧p=(op,rs):=by
 simp only[one,Option.map_eq_some_iff] at h;obtain⟨rs,h1,h2⟩:=h;exact⟨rs,h1,h2.symm⟩
theorem run_typeInfo{t:TypeId}{i:TypeInfo}(h:P.info? t=some i):(typeInfo t).run P w=.ok i w:=by simp[typeInfo,h]
theorem run_sizeOf{t:TypeId}{k:Nat}(h:eC P t=some k):(sizeOf t).run P w=.ok k w:=by
 simp only[eC,Option.map_eq_some_iff] at h;obtain⟨i,hi,rfl⟩:=h;simp[sizeOf,run_typeInfo hi]
theorem kT{t:TypeId}{g:Bool}(h:lz P t=some g):(isAgg t).run P w=.ok g w:=by
 simp only[lz,Option.map_eq_some_iff] at h;obtain⟨d,hd,rfl⟩:=h;unfold isAgg;rw[Sem.run_bind,run_underlying hd];cases d<;>rfl
theorem cS{t:TypeId}{z:AV}(h:mg P t=some z)(ρ:cG)(D:Dom):(zeroValue t).run P w=.ok (real ρ z) w∧z.aW D:=by
 unfold mg at h;cases hi:P.info? t with
 |none=>simp[hi] at h
 |some i=>
  simp only[hi,Option.bind_eq_some_iff] at h;obtain⟨v,hv,hz⟩:=h;have:=pR ρ D _ v z hz;exact⟨by simp[zeroValue,run_typeInfo hi,hv,this.1],this.2⟩
theorem eP(L:Loc)(o k:Nat):Addr.add ⟨L.bH,L.off+o,none⟩ k=⟨L.bH,L.off+(o+k),none⟩:=by
 unfold Addr.add;split
 ·rename_i e;subst e;rfl
 ·simp[Nat.add_assoc]
theorem jA{v:AV}{i:Nat}(h:asNat v=some i):∃k,v=.int k (i:Int):=by
 cases v with
 |int k n=>
  cases n with
  |ofNat m=>simp[asNat] at h;subst h;exact⟨k,rfl⟩
  |negSucc m=>simp[asNat] at h
 |_=>simp[asNat] at h
theorem aM(ρ:cG)(l:List AV):(aq ρ l).length=l.length:=by rw[cH];simp
theorem dX(ρ:cG)(l:List AV)(i:Nat):(aq ρ l)[i]?=(l[i]?).map (real ρ):=by rw[cH,List.getElem?_map]
theorem wh(ρ:cG)(l:List AV)(k:Nat):aq ρ (l.take k)=(aq ρ l).take k:=by simp[cH]
theorem wg(ρ:cG)(l:List AV)(k:Nat):aq ρ (l.drop k)=(aq ρ l).drop k:=by simp[cH]
theorem ig(ρ:cG)(l m:List AV):aq ρ (l++m)=aq ρ l++aq ρ m:=by simp[cH]
theorem yz{t:TypeId}{g:Bool}{k off:Nat}{cs:List AV}{v:AV}(hg:lz P t=some g)(hk:eC P t=some k)(hp:part cs off k g=some v)(hd:bl D cs):
  (Go.part t (aq ρ cs).toArray off).run P w=.ok (real ρ v) w∧v.aW D:=by
 unfold Go.part;rw[Sem.run_bind,kT hg];simp only[Result.andThen];unfold part at hp;cases g with
 |true=>
  simp only[cond_true] at hp;cases hb:Nat.ble (off+k) cs.length with
  |false=>simp[hb] at hp
  |true=>
   simp only[hb,cond_true,Option.some.injEq] at hp;subst hp;have hle:=Nat.le_of_ble_eq_true hb;simp only[if_true,Sem.run_bind,run_sizeOf hk,Result.andThen,Sem.run_pure,real,AV.aW];refine⟨?_,?_⟩
   ·congr 2
    rw[wh,wg];apply Array.ext';simp[List.extract_eq_take_drop]
   ·rw[aN] at hd⊢;exact fun x hx=>hd x (List.mem_of_mem_drop (List.mem_of_mem_take hx))
 |false=>
  simp only[cond_false] at hp;have:(aq ρ cs).toArray[off]?=some (real ρ v):=by
   rw[List.getElem?_toArray,dX,hp];rfl
  refine⟨by simp only[Bool.false_eq_true,if_false,this,Sem.run_pure],(aN D cs).1 hd v (List.mem_of_getElem? hp)⟩
end
end Ads
end Go.Proofs.YtmnolnoeibhjgaaGreat
namespace Go.Proofs.YtmnolnoeibhjgaaGreat
namespace Ads
section
variable {P:Program} {ρ:cG} {D:Dom} {w:World}
def wR(P:Program)(ρ:cG)(D:Dom)(w:World)(s:Sem Next)(v:AV):Prop:=s.run P w=.ok (.value (real ρ v)) w∧v.aW D
theorem bK{s:Sem Value}{v:AV}(h:s.run P w=.ok (real ρ v) w)(hd:v.aW D):wR P ρ D w (do pure (.value (←s))) v:=by
 refine⟨?_,hd⟩;rw[Sem.run_bind,h];rfl
theorem Bz{α β:Type}(g:α→Sem β)(r:α→β):∀(l:List α),(∀x∈l,(g x).run P w=.ok (r x) w)→(l.mapM g).run P w=.ok (l.map r) w
 |[],_=>by simp
 |x::xs,h=>by
  rw[List.mapM_cons,Sem.run_bind,h x (List.mem_cons_self ..)];simp only[Result.andThen];rw[Sem.run_bind,Bz g r xs (fun y hy=>h y (List.mem_cons_of_mem _ hy))];simp[Result.andThen]
theorem wA{α β:Type}(g:α→Sem β)(r:α→β)(l:Array α)(h:∀x∈l.toList,(g x).run P w=.ok (r x) w):(l.mapM g).run P w=.ok (l.map r) w:=by
 obtain⟨l⟩:=l;rw[List.mapM_toArray,Sem.run_map,Bz g r l h];simp[Result.andThen]
theorem si:∀(xs:List Value) (k off:Nat) (cs:Array Value),off+k+xs.length≤cs.size→
  (xs.zipIdx k).foldl (fun cs (p:Value×Nat)=>cs.setIfInBounds (off+p.2) p.1) cs=(Heap.splice cs.toList (off+k) xs).toArray
 |[],k,off,cs,_=>by simp[Heap.gO]
 |x::xs,k,off,cs,h=>by
  simp only[List.zipIdx_cons,List.foldl_cons];rw[si xs (k+1) off _ (by simp at h⊢;omega),Heap.pE _ _ _ _ (by simp at h⊢;omega)];simp[Nat.add_assoc]
theorem qS(xs:Array Value)(off:Nat)(cs:Array Value)(h:off+xs.size≤cs.size):
  xs.zipIdx.foldl (fun cs (p:Value×Nat)=>cs.setIfInBounds (off+p.2) p.1) cs=(Heap.splice cs.toList off xs.toList).toArray:=by
 obtain⟨xs⟩:=xs;have:=si xs 0 off cs (by simpa using h);simp only[Nat.add_zero] at this;rw[←this];simp
theorem tg{pl:Nat→Option (Nat×Nat)}:∀{idx:List Nat} {places:List (Nat×Nat)} {vals:List AV} {cs out:List AV},
  idx.map pl=places.map some→fill cs places vals=some out→bl D vals→bl D cs→
  Instr.fill pl (aq ρ cs).toArray (idx.zip (aq ρ vals))=some (aq ρ out).toArray∧bl D out∧out.length=cs.length
 |[],[],[],cs,out,_,h,_,hc=>by simp[fill] at h;subst h;simp[Instr.fill,hc]
 |[],[],_::_,cs,out,_,h,_,_=>by simp[fill] at h
 |[],_::_,_,cs,out,hp,_,_,_=>by simp at hp
 |_::_,[],_,cs,out,hp,_,_,_=>by simp at hp
 |i::idx,(o,k)::places,[],cs,out,_,h,_,_=>by simp[fill] at h
 |i::idx,(o,k)::places,v::vals,cs,out,hp,h,hv,hc=>by
  simp only[List.map_cons,List.cons.injEq] at hp;simp only[fill] at h;cases hb:(Nat.beq v.cells.length k&&Nat.ble (o+k) cs.length) with
  |false=>simp[hb] at h
  |true=>
   simp only[hb,cond_true] at h;simp only[Bool.and_eq_true] at hb;have h1:v.cells.length=k:=Nat.eq_of_beq_eq_true hb.1;have h2:=Nat.le_of_ble_eq_true hb.2;simp only[bl] at hv;have hsp:bl D (Heap.splice cs o v.cells):=by
    rw[aN] at hc⊢;have Rw:=(aN D _).1 (iU hv.1);intro x hx;obtain⟨j,hj⟩:=List.mem_iff_getElem?.1 hx;rw[Heap.ew _ _ _ _ (by omega)] at hj;split at hj
    ·exact Rw x (List.mem_of_getElem? hj)
    ·exact hc x (List.mem_of_getElem? hj)
   have ih:=tg hp.2 h hv.2 hsp;refine⟨?_,ih.2.1,by rw[ih.2.2,Heap.dB]⟩;simp only[aq,List.zip_cons_cons,Instr.fill,hp.1];rw[dM];have hsz:(aq ρ v.cells).toArray.size=k:=by simp[aM,h1]
   rw[if_neg]
   rotate_left
   ·simp[hsz,aM];omega
   rw[qS _ _ _ (by rw[hsz];simp[aM];omega)];have e:Heap.splice (aq ρ cs) o (aq ρ v.cells)=aq ρ (Heap.splice cs o v.cells):=by simp only[cH,Heap.rE]
   simp only[e];exact ih.1
theorem tH{place:Nat→Option (Nat×Nat)}{env:Env}{a:Act}{n:Nat}(he:bG ρ D n env a):∀{ps:List (Nat×Operand)} {Pf:List (Nat×Nat)} {rs:List bx},
  partsOf ps place=some (Pf,rs)→(ps.map (·.1)).map place=Pf.map some∧(ps.map fun p=>a.eval p.2)=aq ρ (rs.map env.ev)∧bl D (rs.map env.ev)
 |[],Pf,rs,h=>by simp[partsOf] at h;obtain⟨rfl,rfl⟩:=h;simp[aq,bl]
 |(i,x)::ps,Pf,rs,h=>by
  simp only[partsOf] at h;cases h1:place i with
  |none=>simp[h1] at h
  |some p=>
   cases h2:dr x with
   |none=>simp[h1,h2] at h
   |some r=>
    cases h3:partsOf ps place with
    |none=>simp[h1,h2,h3] at h
    |some q=>
     obtain⟨Z5,rs'⟩:=q;simp only[h1,h2,h3,Option.some.injEq,Prod.mk.injEq] at h;obtain⟨rfl,rfl⟩:=h;have ih:=tH he h3;have hr:=aG he h2;simp only[List.map_cons,aq,bl];exact⟨by rw[ih.1,h1],by rw[ih.2.1,hr.1],hr.2,ih.2.2⟩
theorem oe{α β γ:Type}(f:β→γ):∀(l:List (α×β)),(l.map fun p=>(p.1,f p.2))=(l.map (·.1)).zip (l.map fun p=>f p.2)
 |[]=>rfl
 |x::xs=>by simp[oe f xs]
variable {n:Nat} {env:Env} {a:Act}
theorem FI{t:TypeId}{d:TypeDesc}(h:P.underlying t=some d):(underlying t).run P w=.ok d w:=run_underlying h w
theorem FY{op:BinOp}{o1 o2:Operand}{t:TypeId}{x y v:AV}(h:xe op x y=some v):
  ((do eqGuard op t o1 o2 (real ρ x) (real ρ y);binOp op t (real ρ x) (real ρ y):Sem Value)).run P w=.ok (real ρ v) w∧v.aW D:=by
 cases x with
 |int k p=>
  cases y with
  |int k' q=>
   have hg:(eqGuard op t o1 o2 (.int k p) (.int k' q)).run P w=.ok () w:=by
    unfold eqGuard;cases op<;>simp
   simp only[real,Sem.run_bind,hg,Result.andThen];simp only[xe] at h;cases hs:jL op with
   |true=>
    simp only[hs,cond_true] at h;unfold mM at h;by_cases hq:q<0
    ·simp[hq] at h
    ·simp only[hq,decide_false,cond_false] at h;cases op<;>simp[jL] at hs<;>simp at h<;>subst h<;>simp[binOp,Op.shift,hq,real,AV.aW]
   |false=>
    simp only[hs,cond_false] at h;by_cases hk:k=k'
    ·subst hk;simp only[decide_true,cond_true] at h;cases op<;>simp[jL] at hs<;>simp only[qT,Option.some.injEq] at h
     case quo=>
      by_cases hq:q=0
      ·simp[hq] at h
      ·simp[hq] at h;subst h;simp[binOp,Op.intDiv,hq,real,AV.aW]
     case rem=>
      by_cases hq:q=0
      ·simp[hq] at h
      ·simp[hq] at h;subst h;simp[binOp,Op.intDiv,hq,real,AV.aW]
     all_goals first
      |(subst h;simp[binOp,Op.intArith,Op.intBits,Op.intCmp,real,AV.aW];done)
      |simp at h
    ·simp[hk] at h
  |_=>simp[xe] at h
 |str s=>
  cases y with
  |str s'=>
   have hg:(eqGuard op t o1 o2 (.string ⟨s.toArray⟩) (.string ⟨s'.toArray⟩)).run P w=.ok () w:=by
    unfold eqGuard;cases op<;>simp
   simp only[real,Sem.run_bind,hg,Result.andThen];simp only[xe] at h;cases op<;>simp only[yY,Option.some.injEq] at h
   case add=>
    cases hb:Nat.ble (s.length+s'.length) 9223372036854775807 with
    |false=>simp[hb] at h
    |true=>
     simp only[hb,cond_true,Option.some.injEq] at h;subst h;have hle:=Nat.le_of_ble_eq_true hb;simp only[binOp];rw[run_string_add_sum w _ _ (by simp only[ByteArray.size,List.size_toArray];omega)];refine⟨?_,by simp[AV.aW]⟩;simp only[real]
     congr 2
   all_goals first
    |(subst h;simp[binOp,Op.stringOp,real,AV.aW,ByteArray.toList_mk];done)
    |simp at h
  |_=>simp[xe] at h
 |_=>simp[xe] at h
end
end Ads
end Go.Proofs.YtmnolnoeibhjgaaGreat
namespace Go.Proofs.YtmnolnoeibhjgaaGreat
namespace Ads
section
variable {P:Program} {ρ:cG} {D:Dom} {w:World} {n:Nat} {env:Env} {a:Act}
theorem Ax{c:Bool}{o:Option (List Nat)}{k:FO}(h:(bif c then none else Option.map FO.cells o)=some k):∃ks,k=.cells ks:=by
 cases c with
 |true=>simp at h
 |false=>
  simp only[cond_false,Option.map_eq_some_iff] at h;obtain⟨ks,-,rfl⟩:=h;exact⟨ks,rfl⟩
theorem Kz{k:Nat}{t:TypeId}{x y:AV}{b:Bool}(hu:(match P.underlying t with|some (.int _)=>k=0|some .bool=>k=1|some .string=>k=2|_=>False))(h:tW k x y=some b):
  (Op.equalIn 9999 t (real ρ x) (real ρ y)).run P w=.ok b w:=by
 unfold Op.equalIn;cases hd:P.underlying t with
 |none=>simp[hd] at hu
 |some d=>
  rw[Sem.run_bind,run_underlying hd];simp only[Result.andThen];unfold tW at h;split at h
  ·rename_i k1 n1 k2 n2;cases hk:decide (k1=k2) with
   |false=>simp[hk] at h
   |true=>
    have:=of_decide_eq_true hk;subst this;simp at h;subst h;cases d<;>simp[hd] at hu<;>simp[real]
  ·simp at h;subst h;cases d<;>simp[hd] at hu<;>simp[real]
  ·simp at h;subst h;rename_i s1 s2;cases d<;>simp[hd] at hu
   simp only[real,Sem.run_pure,Result.ok.injEq,and_true];show(s1.toArray==s2.toArray)=(s1==s2);simp
  ·simp at h
theorem yE{X Y:Array Value}:∀(fs:List Field) (i:Nat) {ks:List Nat} {xs ys:List AV} {b:Bool},l6 P i fs=some ks→fZ ks xs ys=some b→
  (∀j,X[i+j]?=(xs[j]?).map (real ρ))→(∀j,Y[i+j]?=(ys[j]?).map (real ρ))→
  (forIn (m:=Sem) fs ((none,()):Option Bool×Unit) fun(f:Field) (__s:Option Bool×Unit)=>
   if f.name≠ "_" then do
    let __do_lift ←Go.part f.type X f.offset
    let __do_lift_1 ←Go.part f.type Y f.offset
    let __do_lift ←Op.equalIn 9999 f.type __do_lift __do_lift_1
    if(!__do_lift)=true then pure (ForInStep.done (some false,()))
     else pure (ForInStep.yield (none,()))
   else pure (ForInStep.yield (none,()))).run P w=.ok (bif b then(none,()) else(some false,())) w
 |[],i,ks,xs,ys,b,hk,h,hX,hY=>by
  simp only[l6,Option.some.injEq] at hk;subst hk;simp only[fZ,Option.some.injEq] at h;subst h;simp
 |f::fs,i,ks,xs,ys,b,hk,h,hX,hY=>by
  simp only[l6] at hk;cases hc:(f.name != "_" &&Nat.beq f.offset i) with
  |false=>simp[hc] at hk
  |true=>
   simp only[hc,cond_true] at hk;simp only[Bool.and_eq_true,bne_iff_ne,ne_eq] at hc;have hoff:=Nat.eq_of_beq_eq_true hc.2;have hks:∃k ks',ks=k::ks'∧l6 P (i+1) fs=some ks'∧(match P.underlying f.type with|some (.int _)=>k=0|some .bool=>k=1|some .string=>k=2|_=>False)∧lz P f.type=some false:=by
    split at hk
    ·rename_i hu;simp only[Option.map_eq_some_iff] at hk;obtain⟨ks',h1,rfl⟩:=hk;exact⟨_,_,rfl,h1,by simp[hu],by simp[lz,hu]⟩
    ·rename_i hu;simp only[Option.map_eq_some_iff] at hk;obtain⟨ks',h1,rfl⟩:=hk;exact⟨_,_,rfl,h1,by simp[hu],by simp[lz,hu]⟩
    ·rename_i hu;simp only[Option.map_eq_some_iff] at hk;obtain⟨ks',h1,rfl⟩:=hk;exact⟨_,_,rfl,h1,by simp[hu],by simp[lz,hu]⟩
    ·simp at hk
   obtain⟨k,ks',rfl,hk',RP,Rq⟩:=hks;cases xs with
   |nil=>simp[fZ] at h
   |cons x xs=>
    cases ys with
    |nil=>simp[fZ] at h
    |cons y ys=>
     have hx0:=hX 0;have hy0:=hY 0;simp only[Nat.add_zero,List.getElem?_cons_zero,Option.map_some] at hx0 hy0;have hone:∃c,tW k x y=some c:=by
      simp only[fZ] at h;split at h
      ·exact⟨_,by assumption⟩
      ·exact⟨_,by assumption⟩
      ·simp at h
     obtain⟨c,hone⟩:=hone;have hpx:(Go.part f.type X f.offset).run P w=.ok (real ρ x) w:=by
      unfold Go.part;rw[Sem.run_bind,kT Rq];simp only[Result.andThen,Bool.false_eq_true,if_false,hoff,hx0,Sem.run_pure]
     have hpy:(Go.part f.type Y f.offset).run P w=.ok (real ρ y) w:=by
      unfold Go.part;rw[Sem.run_bind,kT Rq];simp only[Result.andThen,Bool.false_eq_true,if_false,hoff,hy0,Sem.run_pure]
     have he:=Kz (ρ:=ρ) (w:=w) RP hone;rw[List.forIn_cons,Sem.run_bind];simp only[ne_eq,hc.1,not_false_eq_true,if_true];rw[Sem.run_bind,hpx];simp only[Result.andThen];rw[Sem.run_bind,hpy];simp only[Result.andThen];rw[Sem.run_bind,he];simp only[Result.andThen];simp only[fZ,hone] at h;cases c with
     |false=>
      simp only[Option.some.injEq] at h;subst h;simp
     |true=>
      simp only at h;simp only[Bool.not_true,Bool.false_eq_true,if_false,Sem.run_pure];refine yE fs (i+1) hk' h (fun j=>?_) (fun j=>?_)
      ·have:=hX (j+1);rw[List.getElem?_cons_succ] at this;rw[←this];congr 1;omega
      ·have:=hY (j+1);rw[List.getElem?_cons_succ] at this;rw[←this];congr 1;omega
theorem Ju{k:FO}{t:TypeId}{x y:AV}{b:Bool}(hk:oQ P t=some k)(h:BW k x y=some b):
  (Op.equal t (real ρ x) (real ρ y)).run P w=.ok b w:=by
 unfold Op.equal Op.maxDepth;unfold oQ at hk;unfold Op.equalIn;cases hu:P.underlying t with
 |none=>simp[hu] at hk
 |some d=>
  rw[Sem.run_bind,run_underlying hu];simp only[Result.andThen];unfold BW at h;split at h
  case h_24=>simp at h
  case h_1 ks xs ys=>
   cases d<;>simp only[hu,reduceCtorEq,Option.some.injEq] at hk
   case struct fs=>
    cases hst:(P.stoodInHeld t||P.eqGuardType P.depth t) with
    |true=>simp[hst] at hk
    |false=>
     simp only[hst,cond_false,Option.map_eq_some_iff,FO.cells.injEq,exists_eq_right] at hk;simp only[Bool.or_eq_false_iff] at hst;simp only[real];rw[Sem.run_bind];have hr:=yE (P:=P) (ρ:=ρ) (w:=w) (X:=(aq ρ xs).toArray) (Y:=(aq ρ ys).toArray) fs.toList 0 hk h (fun j=>by rw[Nat.zero_add,List.getElem?_toArray,dX]) (fun j=>by rw[Nat.zero_add,List.getElem?_toArray,dX]);have hp:(program:Sem Program).run P w=.ok P w:=by simp
     rw[hp];simp only[Result.andThen,hst.1,Bool.false_eq_true,if_false];rw[Sem.run_bind,←Array.forIn_toList,hr];cases b<;>simp[Result.andThen]
  all_goals (cases d<;>simp[hu] at hk<;>first|(obtain⟨_,hks⟩:=Ax hk;exact absurd hks (by simp))|(simp at h<;>subst h<;>simp[real]))
theorem Cw{op:BinOp}{t:TypeId}{o1 o2:Operand}{k:FO}{x y:AV}{b:Bool}(hk:oQ P t=some k)(hc:(eU o1||eU o2||!jU P t)=true)
  (h:BW k x y=some b):(eqGuard op t o1 o2 (real ρ x) (real ρ y)).run P w=.ok () w:=by
 unfold eqGuard;cases op
 case eql|neq=>
  simp only[Bool.not_true,Bool.false_eq_true,if_false];unfold BW at h;split at h
  case h_24=>simp at h
  case h_1 ks xs ys=>
   have hst:P.eqGuardType P.depth t=false:=by
    unfold oQ at hk;cases hu:P.underlying t with
    |none=>simp[hu] at hk
    |some d=>
     cases d<;>simp only[hu,reduceCtorEq,Option.some.injEq] at hk
     case struct fs=>
      cases hst:(P.stoodInHeld t||P.eqGuardType P.depth t) with
      |true=>simp[hst] at hk
      |false=>
       simp only[Bool.or_eq_false_iff] at hst;exact hst.2
   simp[real,hst,Result.andThen]
  case h_21=>
   have hi:jU P t=true:=by
    unfold oQ at hk;unfold jU;cases hu:P.underlying t with
    |none=>simp[hu] at hk
    |some d=>cases d<;>simp[hu] at hk⊢<;>(obtain⟨_,hks⟩:=Ax hk;exact absurd hks (by simp))
   simp only[hi,Bool.not_true,Bool.or_false] at hc;simp only[real];cases o1<;>cases o2<;>simp[eU] at hc⊢
  all_goals simp[real]
 all_goals rfl
theorem Ao{k:FO}{t:TypeId}{x y:AV}{b:Bool}(h:BW k x y=some b):
  binOp .eql t (real ρ x) (real ρ y)=(do pure (.bool (←Op.equal t (real ρ x) (real ρ y))))∧
  binOp .neq t (real ρ x) (real ρ y)=(do pure (.bool (!(←Op.equal t (real ρ x) (real ρ y))))):=by
 unfold BW at h;split at h
 case h_24=>simp at h
 all_goals (simp only[real];exact⟨rfl,rfl⟩)
theorem Cp(o:Oper)(op:BinOp)(t:TypeId)(x y:Operand)(yt:TypeId)(IT:Operand→Value)(ho:o.op=.binOp op t x y yt):
  execOp IT o=(do pure (.value (←(do eqGuard op t x y (IT x) (IT y);binOp op t (IT x) (IT y):Sem Value)))):=by
 unfold execOp;rw[ho]
theorem Ap{o:Oper}{op:BinOp}{t yt:TypeId}{x y:Operand}{p:pQ}{rs:List bx}{v:AV}(he:bG ρ D n env a)
  (ho:o.op=.binOp op t x y yt)(hc:aD P o.op=some (.p p,rs))(hv:pI p (rs.map env.ev)=some v):wR P ρ D w (execOp a.eval o) v:=by
 rw[Cp o op t x y yt _ ho];rw[ho] at hc;have two:∀{q:fG},one q [x,y]=some (.p p,rs)→q=.p p∧∃r s,rs=[r,s]∧a.eval x=real ρ (env.ev r)∧a.eval y=real ρ (env.ev s):=by
  intro q h;obtain⟨rs',h1,h2⟩:=bh h;simp only[Prod.mk.injEq] at h2;obtain⟨r,s,rfl,hr,hs⟩:=fN h1;exact⟨h2.1.symm,r,s,h2.2,(aG he hr).1,(aG he hs).1⟩
 simp only[aD] at hc;have Gp:∀(neg:Bool) (k:FO),oQ P t=some k→(eU x||eU y||!jU P t)=true→(op=.eql∧neg=false∨op=.neq∧neg=true)→
   (∀k',P.underlying t≠some (.int k'))→P.underlying t≠some .string→
   one (.p (cond neg (.neq k) (.eq k))) [x,y]=some (.p p,rs)→wR P ρ D w (do pure (.value (←(do eqGuard op t x y (a.eval x) (a.eval y);binOp op t (a.eval x) (a.eval y):Sem Value)))) v:=by
  intro neg k hk eE hop hni R2 h1;obtain⟨hq,r,s,rfl,e1,e2⟩:=two h1;simp only[fG.p.injEq] at hq;subst hq;simp only[List.map_cons,List.map_nil] at hv;have hb:∃b,BW k (env.ev r) (env.ev s)=some b∧v=.bool (cond neg (!b) b):=by
   cases neg
   ·simp only[cond_false,pI,Option.map_eq_some_iff] at hv;obtain⟨b,hb,rfl⟩:=hv;exact⟨b,hb,rfl⟩
   ·simp only[cond_true,pI,Option.map_eq_some_iff] at hv;obtain⟨b,hb,rfl⟩:=hv;exact⟨b,hb,rfl⟩
  obtain⟨b,hb,rfl⟩:=hb;refine bK ?_ (by simp[AV.aW]);rw[Sem.run_bind,e1,e2,Cw hk eE hb];simp only[Result.andThen];have heq:=Ju (ρ:=ρ) (w:=w) hk hb;rcases hop with⟨rfl,rfl⟩|⟨rfl,rfl⟩
  ·rw[(Ao hb).1,Sem.run_bind,heq];simp[Result.andThen,real]
  ·rw[(Ao hb).2,Sem.run_bind,heq];simp[Result.andThen,real]
 have Dr:one (.p (.bin op)) [x,y]=some (.p p,rs)→wR P ρ D w (do pure (.value (←(do eqGuard op t x y (a.eval x) (a.eval y);binOp op t (a.eval x) (a.eval y):Sem Value)))) v:=by
  intro h1;obtain⟨hq,r,s,rfl,e1,e2⟩:=two h1;simp only[fG.p.injEq] at hq;subst hq;simp only[List.map_cons,List.map_nil,pI] at hv;have:=FY (P:=P) (ρ:=ρ) (D:=D) (w:=w) (o1:=x) (o2:=y) (t:=t) hv;rw[e1,e2];exact bK this.1 this.2
 cases hu:P.underlying t with
 |none=>
  simp only[hu] at hc;cases op<;>simp[oQ,hu] at hc
 |some d=>
  by_cases hint:∃k,d=.int k
  ·obtain⟨k,rfl⟩:=hint;simp only[hu] at hc;exact Dr hc
  ·by_cases CG:d=.string
   ·subst CG;simp only[hu] at hc;exact Dr hc
   ·have hni:∀k',P.underlying t≠some (.int k'):=by
     intro k' e;rw[hu] at e;simp at e;exact hint ⟨k',e⟩
    have R2:P.underlying t≠some .string:=by
     intro e;rw[hu] at e;simp at e;exact CG e
    have jC:(match op with
      |.eql=>if eU x||eU y||!jU P t then(oQ P t).bind fun k=>one (.p (.eq k)) [x,y] else none
      |.neq=>if eU x||eU y||!jU P t then(oQ P t).bind fun k=>one (.p (.neq k)) [x,y] else none
      |_=>none)=some (.p p,rs):=by
     revert hc;cases d<;>first|(exfalso;exact hint ⟨_,rfl⟩)|(exfalso;exact CG rfl)|(simp only[hu];exact id)
    cases op<;>simp only at jC<;>try(simp at jC;done)
    ·split at jC
     ·rename_i eE;simp only[Option.bind_eq_some_iff] at jC;obtain⟨k,hk,h1⟩:=jC;exact Gp false k hk eE (.inl ⟨rfl,rfl⟩) hni R2 h1
     ·simp at jC
    ·split at jC
     ·rename_i eE;simp only[Option.bind_eq_some_iff] at jC;obtain⟨k,hk,h1⟩:=jC;exact Gp true k hk eE (.inr ⟨rfl,rfl⟩) hni R2 h1
     ·simp at jC
end
end Ads
end Go.Proofs.YtmnolnoeibhjgaaGreat
set_option linter.unusedSimpArgs false
set_option linter.unusedVariables false
namespace Go.Proofs.YtmnolnoeibhjgaaGreat
namespace Ads
section
variable {P:Program} {ρ:cG} {D:Dom} {w:World} {n:Nat} {env:Env} {a:Act}
theorem ee{q:fG}{x:Operand}{p:pQ}{rs:List bx}(he:bG ρ D n env a)(h:one q [x]=some (.p p,rs)):
  q=.p p∧∃r,rs=[r]∧a.eval x=real ρ (env.ev r)∧(env.ev r).aW D:=by
 obtain⟨rs',h1,h2⟩:=bh h;simp only[Prod.mk.injEq] at h2;obtain⟨r,rfl,hr⟩:=eX h1;exact⟨h2.1.symm,r,h2.2,(aG he hr).1,(aG he hr).2⟩
theorem qb{q:fG}{x y:Operand}{p:pQ}{rs:List bx}(he:bG ρ D n env a)(h:one q [x,y]=some (.p p,rs)):
  q=.p p∧∃r s,rs=[r,s]∧a.eval x=real ρ (env.ev r)∧a.eval y=real ρ (env.ev s)∧(env.ev r).aW D∧(env.ev s).aW D:=by
 obtain⟨rs',h1,h2⟩:=bh h;simp only[Prod.mk.injEq] at h2;obtain⟨r,s,rfl,hr,hs⟩:=fN h1;exact⟨h2.1.symm,r,s,h2.2,(aG he hr).1,(aG he hs).1,(aG he hr).2,(aG he hs).2⟩
theorem vQ{x:Operand}{p:pQ}{rs:List bx}{v:AV}(he:bG ρ D n env a)(hc:one (.p .yh) [x]=some (.p p,rs))(hv:pI p (rs.map env.ev)=some v):
  a.eval x=real ρ v∧v.aW D:=by
 obtain⟨hq,r,rfl,e1,d1⟩:=ee he hc;simp only[fG.p.injEq] at hq;subst hq;simp only[List.map_cons,List.map_nil,pI,Option.some.injEq] at hv;subst hv;exact⟨e1,d1⟩
theorem CW{c x y:Operand}{p:pQ}{rs:List bx}{v:AV}(he:bG ρ D n env a)(hc:one (.p .pick) [c,x,y]=some (.p p,rs))(hv:pI p (rs.map env.ev)=some v):
  wR P ρ D w (do pure (.value (if←asBool (a.eval c) then a.eval x else a.eval y))) v:=by
 obtain⟨rs',h1,h2⟩:=bh hc;simp only[Prod.mk.injEq,fG.p.injEq] at h2;obtain⟨rfl,rfl⟩:=h2;obtain⟨r,s,t,rfl,h1,h2,h3⟩:=pn h1;have e1:=aG he h1;have e2:=aG he h2;have e3:=aG he h3;simp only[List.map_cons,List.map_nil] at hv;rw[e1.1,e2.1,e3.1];cases hb:env.ev r with
 |bool b=>
  rw[hb] at hv;simp only[pI,Option.some.injEq] at hv;subst hv;unfold wR;cases b<;>simp[real,asBool,Result.andThen,e2.2,e3.2]
 |_=>rw[hb] at hv;simp[pI] at hv
theorem run_build{t:TypeId}{ps:List (Nat×Operand)}{places:List (Nat×Nat)}{rs:List bx}{z:AV}{cs:List AV}{pl:Nat→Option (Nat×Nat)}(he:bG ρ D n env a)
  (hz:mg P t=some z)(hps:partsOf ps pl=some (places,rs))(hf:fill z.cells places (rs.map env.ev)=some cs):
  Instr.fill pl (real ρ z).cells (ps.map fun p=>(p.1,a.eval p.2))=some (aq ρ cs).toArray∧bl D cs:=by
 have hp:=tH he hps;have hzd:=(cS (P:=P) (w:=default) hz ρ D).2;rw[oe a.eval,hp.2.1,dM];have:=tg (ρ:=ρ) (D:=D) hp.1 hf hp.2.2 (iU hzd);exact⟨this.1,this.2.1⟩
theorem As{t:TypeId}{ps:Array (Nat×Operand)}{p:pQ}{rs:List bx}{v:AV}(he:bG ρ D n env a)(hc:aD P (.build t ps)=some (.p p,rs))(hv:pI p (rs.map env.ev)=some v):
  wR P ρ D w (do pure (.value (←Instr.build t (ps.map fun(i,x)=>(i,a.eval x))))) v:=by
 simp only[aD] at hc;split at hc
 ·rename_i z fs hz hu;split at hc
  ·simp at hc
  ·rename_i hall;simp only[Option.map_eq_some_iff] at hc;obtain⟨⟨places,rs'⟩,hps,hq⟩:=hc;simp only[Prod.mk.injEq,fG.p.injEq] at hq;obtain⟨rfl,rfl⟩:=hq;simp only[pI,Option.map_eq_some_iff] at hv;obtain⟨cs,hf,rfl⟩:=hv;have hb:=run_build he hz hps hf;refine bK ?_ (by simp only[AV.aW];exact hb.2);simp only[Instr.build,Sem.run_bind,(cS hz ρ D).1,Result.andThen,run_underlying hu,Sem.run_pure];have K6:∀f∈fs.toList,(eC P f.type).isSome=true:=by
    simp only[Bool.not_eq_true',Bool.not_eq_false] at hall;intro f hf;have:=Array.all_eq_true_iff_forall_mem.1 hall f (by simpa using hf);exact this
   have hm:=wA (P:=P) (w:=w) (fun f:Field=>(do pure (f.offset,←sizeOf f.type):Sem (Nat×Nat))) (fun f:Field=>(f.offset,(eC P f.type).getD 0)) fs (by
    intro f hf;obtain⟨k,hk⟩:=Option.isSome_iff_exists.1 (K6 f hf);rw[Sem.run_bind,run_sizeOf hk];simp[Result.andThen,hk])
   rw[hm];simp only[Result.andThen];have jn:(fun i=>(fs.map fun f:Field=>(f.offset,(eC P f.type).getD 0))[i]?)=nE P fs:=by
    funext i
    unfold nE;rw[Array.getElem?_map];cases T8:fs[i]? with
    |none=>rfl
    |some f=>
     obtain⟨k,hk⟩:=Option.isSome_iff_exists.1 (K6 f (by
      have:=Array.mem_of_getElem? T8;simpa using this))
     simp[hk]
   rw[jn];have e:(ps.map fun(p:Nat×Operand)=>(p.1,a.eval p.2)).toList=ps.toList.map fun p=>(p.1,a.eval p.2):=by simp
   rw[show(ps.map fun(i,x)=>(i,a.eval x)).toList=ps.toList.map fun p=>(p.1,a.eval p.2) from e,hb.1];simp[real]
 ·rename_i z len e hz hu;split at hc
  ·rename_i k hk;simp only[Option.map_eq_some_iff] at hc;obtain⟨⟨places,rs'⟩,hps,hq⟩:=hc;simp only[Prod.mk.injEq,fG.p.injEq] at hq;obtain⟨rfl,rfl⟩:=hq;simp only[pI,Option.map_eq_some_iff] at hv;obtain⟨cs,hf,rfl⟩:=hv;have hb:=run_build he hz hps hf;refine bK ?_ (by simp only[AV.aW];exact hb.2);simp only[Instr.build,Sem.run_bind,(cS hz ρ D).1,Result.andThen,run_underlying hu,Sem.run_pure,run_sizeOf hk];have e:(ps.map fun(p:Nat×Operand)=>(p.1,a.eval p.2)).toList=ps.toList.map fun p=>(p.1,a.eval p.2):=by simp
   rw[show(ps.map fun(i,x)=>(i,a.eval x)).toList=ps.toList.map fun p=>(p.1,a.eval p.2) from e,hb.1];simp[real]
  ·simp at hc
 ·simp at hc
theorem vS{x:Operand}{p:pQ}{rs:List bx}{v:AV}(he:bG ρ D n env a)(o:Oper)(ho:o.op=.nilCheck x)(hc:one (.p .o7) [x]=some (.p p,rs))(hv:pI p (rs.map env.ev)=some v):
  wR P ρ D w (execOp a.eval o) v:=by
 obtain⟨hq,r,rfl,e1,d1⟩:=ee he hc;simp only[fG.p.injEq] at hq;subst hq;simp only[List.map_cons,List.map_nil] at hv;unfold execOp;rw[ho];simp only;rw[e1];cases hr:env.ev r with
 |ptr b o=>
  rw[hr] at hv d1;simp only[pI,Option.some.injEq] at hv;subst hv;exact⟨by simp[real],d1⟩
 |_=>rw[hr] at hv;simp[pI] at hv
theorem Ck{s d:TypeId}{x:Operand}{p:pQ}{rs:List bx}{v:AV}(he:bG ρ D n env a)(hc:aD P (.convert s d x)=some (.p p,rs))(hv:pI p (rs.map env.ev)=some v):
  wR P ρ D w (do pure (.value (←convert s d (a.eval x)))) v:=by
 simp only[aD] at hc;split at hc
 ·rename_i sd k hs hd;obtain⟨hq,r,rfl,e1,d1⟩:=ee he hc;simp only[fG.p.injEq] at hq;subst hq;simp only[List.map_cons,List.map_nil] at hv;rw[e1];cases hr:env.ev r with
  |int k' m=>
   rw[hr] at hv;simp only[pI,Option.some.injEq] at hv;subst hv;refine bK ?_ (by simp[AV.aW]);simp[convert,run_underlying hs,run_underlying hd,Conv.intToInt,real,Result.andThen]
  |_=>rw[hr] at hv;simp[pI] at hv
 ·rename_i hs hd;obtain⟨hq,r,rfl,e1,d1⟩:=ee he hc;simp only[fG.p.injEq] at hq;subst hq;simp only[List.map_cons,List.map_nil] at hv;rw[e1];cases hr:env.ev r with
  |str m=>
   rw[hr] at hv;simp only[pI,Option.some.injEq] at hv;subst hv;refine bK ?_ (by simp[AV.aW]);simp[convert,run_underlying hs,run_underlying hd,real,Result.andThen]
  |_=>rw[hr] at hv;simp[pI] at hv
 ·split at hc
  ·obtain⟨rs',h1,h2⟩:=bh hc;simp at h2
  ·simp at hc
 ·split at hc
  ·obtain⟨rs',h1,h2⟩:=bh hc;simp at h2
  ·simp at hc
 ·simp at hc
theorem uy{t:TypeId}{x:Operand}{i:Nat}{p:pQ}{rs:List bx}{v:AV}(he:bG ρ D n env a)(hc:aD P (.fieldAddr t x i)=some (.p p,rs))(hv:pI p (rs.map env.ev)=some v):
  wR P ρ D w (do pure (.value (←Instr.fieldAt t (a.eval x) i))) v:=by
 simp only[aD] at hc;split at hc
 ·rename_i fs hu;split at hc
  ·rename_i f hf;split at hc
   ·rename_i k hk;obtain⟨hq,r,rfl,e1,d1⟩:=ee he hc;simp only[fG.p.injEq] at hq;subst hq;simp only[List.map_cons,List.map_nil] at hv;rw[e1];cases hr:env.ev r with
    |ptr b o=>
     rw[hr] at hv d1;simp only[pI,Option.some.injEq] at hv;subst hv;refine bK ?_ (by simpa[AV.aW] using d1);simp[Instr.fieldAt,run_underlying hu,hf,Instr.sureAddr,fieldPlace,run_sizeOf hk,real,Result.andThen,eP]
    |_=>rw[hr] at hv;simp[pI] at hv
   ·simp at hc
  ·simp at hc
 ·simp at hc
theorem AI{t:TypeId}{x:Operand}{i:Nat}{p:pQ}{rs:List bx}{v:AV}(he:bG ρ D n env a)(hc:aD P (.field t x i)=some (.p p,rs))(hv:pI p (rs.map env.ev)=some v):
  wR P ρ D w (do pure (.value (←Instr.field t (a.eval x) i))) v:=by
 simp only[aD] at hc;split at hc
 ·rename_i fs hu;split at hc
  ·rename_i f hf;split at hc
   ·rename_i g k hg hk;obtain⟨hq,r,rfl,e1,d1⟩:=ee he hc;simp only[fG.p.injEq] at hq;subst hq;simp only[List.map_cons,List.map_nil] at hv;rw[e1];cases hr:env.ev r with
    |agg cs=>
     rw[hr] at hv d1;simp only[pI] at hv;simp only[AV.aW] at d1;have hp:=yz (P:=P) (ρ:=ρ) (w:=w) hg hk hv d1;refine bK ?_ hp.2;simp[Instr.field,run_underlying hu,hf,asAgg,real,Result.andThen,hp.1]
    |_=>rw[hr] at hv;simp[pI] at hv
   ·simp at hc
  ·simp at hc
 ·simp at hc
theorem uB{t:TypeId}{x y:Operand}{p:pQ}{rs:List bx}{v:AV}(he:bG ρ D n env a)(hc:aD P (.indexAddr t x y)=some (.p p,rs))(hv:pI p (rs.map env.ev)=some v):
  wR P ρ D w (do pure (.value (←Instr.indexAt t (a.eval x) (a.eval y)))) v:=by
 simp only[aD] at hc;split at hc
 ·rename_i e hu;simp only[Option.bind_eq_some_iff] at hc;obtain⟨k,hk,hc⟩:=hc;obtain⟨hq,r,s,rfl,e1,e2,d1,d2⟩:=qb he hc;simp only[fG.p.injEq] at hq;subst hq;simp only[List.map_cons,List.map_nil] at hv;rw[e1,e2];cases hr:env.ev r with
  |sl b o len cap jv=>
   rw[hr] at hv d1;simp only[pI] at hv;cases hn:asNat (env.ev s) with
   |none=>simp[hn] at hv
   |some i=>
    simp only[hn] at hv;obtain⟨ik,hs⟩:=jA hn;rw[hs];cases hb:Nat.ble (i+1) len with
    |false=>simp[hb] at hv
    |true=>
     simp only[hb,cond_true,Option.some.injEq] at hv;subst hv;have hle:=Nat.le_of_ble_eq_true hb;refine bK ?_ (by simpa[AV.aW] using d1);simp only[real,Instr.indexAt,asIntOf,Sem.run_bind,Sem.run_pure,Result.andThen,run_underlying hu];rw[if_pos ⟨by omega,by omega⟩];simp[Sem.run_bind,run_sizeOf hk,Result.andThen,eP]
  |_=>rw[hr] at hv;simp[pI] at hv
 ·rename_i len e hu;simp only[Option.bind_eq_some_iff] at hc;obtain⟨k,hk,hc⟩:=hc;obtain⟨hq,r,s,rfl,e1,e2,d1,d2⟩:=qb he hc;simp only[fG.p.injEq] at hq;subst hq;simp only[List.map_cons,List.map_nil] at hv;rw[e1,e2];cases hr:env.ev r with
  |ptr b o=>
   rw[hr] at hv d1;simp only[pI] at hv;cases hn:asNat (env.ev s) with
   |none=>simp[hn] at hv
   |some i=>
    simp only[hn] at hv;obtain⟨ik,hs⟩:=jA hn;rw[hs];cases hb:Nat.ble (i+1) len with
    |false=>simp[hb] at hv
    |true=>
     simp only[hb,cond_true,Option.some.injEq] at hv;subst hv;have hle:=Nat.le_of_ble_eq_true hb;refine bK ?_ (by simpa[AV.aW] using d1);simp only[real,Instr.indexAt,asIntOf,Sem.run_bind,Sem.run_pure,Result.andThen,run_underlying hu,Instr.sureAddr];have hlt:0≤(i:Int)∧(i:Int)<(len:Int):=⟨by omega,by omega⟩;by_cases h1:len≤1
     ·simp[hlt,h1,run_underlying hu,Sem.run_bind,run_sizeOf hk,Result.andThen,eP]
     ·simp[hlt,h1,Sem.run_bind,run_sizeOf hk,Result.andThen,eP]
  |_=>rw[hr] at hv;simp[pI] at hv
 ·simp at hc
theorem Bd{t:TypeId}{x y:Operand}{p:pQ}{rs:List bx}{v:AV}(he:bG ρ D n env a)(hc:aD P (.index t x y)=some (.p p,rs))(hv:pI p (rs.map env.ev)=some v):
  wR P ρ D w (do pure (.value (←Instr.index t (a.eval x) (a.eval y)))) v:=by
 simp only[aD] at hc;split at hc
 ·rename_i hu;obtain⟨hq,r,s,rfl,e1,e2,d1,d2⟩:=qb he hc;simp only[fG.p.injEq] at hq;subst hq;simp only[List.map_cons,List.map_nil] at hv;rw[e1,e2];cases hr:env.ev r with
  |str l=>
   rw[hr] at hv;simp only[pI] at hv;cases hn:asNat (env.ev s) with
   |none=>simp[hn] at hv
   |some i=>
    simp only[hn,Option.map_eq_some_iff] at hv;obtain⟨b,hb,rfl⟩:=hv;obtain⟨ik,hs⟩:=jA hn;rw[hs];refine bK ?_ (by simp[AV.aW]);have hlt:i<l.length:=(List.getElem?_eq_some_iff.1 hb).1;have cu:(⟨l.toArray⟩:ByteArray)[i]?=some b:=by
     rw[getElem?_def];have:i<(⟨l.toArray⟩:ByteArray).size:=by simpa[ByteArray.size] using hlt
     rw[dif_pos this];have:=(List.getElem?_eq_some_iff.1 hb).2;simp[←this];rfl
    simp only[real,Instr.index,asIntOf,Sem.run_bind,Sem.run_pure,Result.andThen,run_underlying hu];simp[cu]
  |_=>rw[hr] at hv;simp[pI] at hv
 ·rename_i len e hu;split at hc
  ·rename_i g k hg hk;obtain⟨hq,r,s,rfl,e1,e2,d1,d2⟩:=qb he hc;simp only[fG.p.injEq] at hq;subst hq;simp only[List.map_cons,List.map_nil] at hv;rw[e1,e2];cases hr:env.ev r with
   |agg cs=>
    rw[hr] at hv d1;simp only[pI] at hv;simp only[AV.aW] at d1;cases hn:asNat (env.ev s) with
    |none=>simp[hn] at hv
    |some i=>
     simp only[hn] at hv;obtain⟨ik,hs⟩:=jA hn;rw[hs];cases hb:Nat.ble (i+1) len with
     |false=>simp[hb] at hv
     |true=>
      simp only[hb,cond_true] at hv;have hle:=Nat.le_of_ble_eq_true hb;have hp:=yz (P:=P) (ρ:=ρ) (w:=w) hg hk hv d1;refine bK ?_ hp.2;simp only[real,Instr.index,asIntOf,Sem.run_bind,Sem.run_pure,Result.andThen,run_underlying hu];rw[if_pos ⟨by omega,by omega⟩];simp[Sem.run_bind,run_sizeOf hk,Result.andThen,hp.1]
   |_=>rw[hr] at hv;simp[pI] at hv
  ·simp at hc
 ·simp at hc
theorem xm{x:Operand}{i:Nat}{p:pQ}{rs:List bx}{v:AV}(he:bG ρ D n env a)(hc:one (.p (.ext i)) [x]=some (.p p,rs))(hv:pI p (rs.map env.ev)=some v):
  wR P ρ D w (do pure (.value (←Instr.extract (a.eval x) i))) v:=by
 obtain⟨hq,r,rfl,e1,d1⟩:=ee he hc;simp only[fG.p.injEq] at hq;subst hq;simp only[List.map_cons,List.map_nil] at hv;rw[e1];cases hr:env.ev r with
 |dO vs=>
  rw[hr] at hv d1;simp only[pI] at hv;simp only[AV.aW] at d1;refine bK ?_ ((aN D vs).1 d1 v (List.mem_of_getElem? hv));have:(aq ρ vs).toArray[i]?=some (real ρ v):=by rw[List.getElem?_toArray,dX,hv];rfl
  simp only[real,Instr.extract,this,Sem.run_pure]
 |_=>rw[hr] at hv;simp[pI] at hv
end
end Ads
end Go.Proofs.YtmnolnoeibhjgaaGreat
set_option linter.unusedSimpArgs false
set_option linter.unusedVariables false
namespace Go.Proofs.YtmnolnoeibhjgaaGreat
namespace Ads
section
variable {P:Program} {ρ:cG} {D:Dom} {w:World} {n:Nat} {env:Env} {a:Act}
theorem fj{v:AV}{i y:Nat}{code:BoundsCode}(h:asNat v=some i)(hy:i≤y):(Instr.sliceBound (real ρ v) y code).run P w=.ok i w:=by
 obtain⟨k,rfl⟩:=jA h;rw[real,run_sliceBound w k (i:Int) y code (by omega) (by omega)];simp
theorem iT{isSlice:Bool}{len cap extra l h m:Nat}{lo hi mx:Option AV}(I2:mx.isSome=true→hi.isSome=true)
  (hb:bounds len cap lo.isSome hi.isSome mx.isSome (lo.toList++(hi.toList++mx.toList))=some (l,h,m)):
  (Instr.sliceBounds isSlice len (cap+extra) (lo.map (real ρ)) (hi.map (real ρ)) (mx.map (real ρ))).run P w=.ok (l,h,cond mx.isSome m (cap+extra)) w∧
  l≤h∧h≤m∧m≤cap∧(mx.isSome=false→m=cap):=by
 unfold bounds at hb;have fin:∀{l' h' m':Nat},(cond (Nat.ble l' h'&&Nat.ble h' m'&&Nat.ble m' cap) (some (l',h',m')) none:Option (Nat×Nat×Nat))=some (l,h,m)→
   l'=l∧h'=h∧m'=m∧l≤h∧h≤m∧m≤cap:=by
  intro l' h' m' e;cases hc:(Nat.ble l' h'&&Nat.ble h' m'&&Nat.ble m' cap) with
  |false=>simp[hc] at e
  |true=>
   simp only[hc,cond_true,Option.some.injEq,Prod.mk.injEq] at e;simp only[Bool.and_eq_true] at hc;have h1:=Nat.le_of_ble_eq_true hc.1.1;have h2:=Nat.le_of_ble_eq_true hc.1.2;have h3:=Nat.le_of_ble_eq_true hc.2;obtain⟨rfl,rfl,rfl⟩:=e;exact⟨rfl,rfl,rfl,h1,h2,h3⟩
 cases lo with
 |none=>
  cases hi with
  |none=>
   cases mx with
   |none=>
    simp at hb;obtain⟨rfl,rfl,rfl,h1,h2,h3⟩:=fin hb;refine⟨?_,h1,h2,h3,fun _=>rfl⟩;simp[Instr.sliceBounds,Result.andThen]
   |some mv=>simp at I2
  |some hv=>
   cases mx with
   |none=>
    simp at hb;cases hh:asNat hv with
    |none=>simp[hh] at hb
    |some h'=>
     simp[hh] at hb;obtain⟨rfl,rfl,rfl,h1,h2,h3⟩:=fin hb;refine⟨?_,h1,h2,h3,fun _=>rfl⟩;simp[Instr.sliceBounds,Result.andThen,fj (P:=P) (w:=w) (ρ:=ρ) hh (show h'≤cap+extra by omega)]
   |some mv=>
    simp at hb;cases hh:asNat hv with
    |none=>simp[hh] at hb
    |some h'=>
     cases hm:asNat mv with
     |none=>simp[hh,hm] at hb
     |some m'=>
      simp[hh,hm] at hb;obtain⟨rfl,rfl,rfl,h1,h2,h3⟩:=fin hb;refine⟨?_,h1,h2,h3,fun e=>by simp at e⟩;simp[Instr.sliceBounds,Result.andThen,fj (P:=P) (w:=w) (ρ:=ρ) hm (show m'≤cap+extra by omega),fj (P:=P) (w:=w) (ρ:=ρ) hh h2]
 |some lv=>
  cases hl:asNat lv with
  |none=>simp[hl] at hb
  |some l'=>
   cases hi with
   |none=>
    cases mx with
    |none=>
     simp[hl] at hb;obtain⟨rfl,rfl,rfl,h1,h2,h3⟩:=fin hb;refine⟨?_,h1,h2,h3,fun _=>rfl⟩;simp[Instr.sliceBounds,Result.andThen,fj (P:=P) (w:=w) (ρ:=ρ) hl h1]
    |some mv=>simp at I2
   |some hv=>
    cases mx with
    |none=>
     cases hh:asNat hv with
     |none=>simp[hl,hh] at hb
     |some h'=>
      simp[hl,hh] at hb;obtain⟨rfl,rfl,rfl,h1,h2,h3⟩:=fin hb;refine⟨?_,h1,h2,h3,fun _=>rfl⟩;simp[Instr.sliceBounds,Result.andThen,fj (P:=P) (w:=w) (ρ:=ρ) hl h1,fj (P:=P) (w:=w) (ρ:=ρ) hh (show h'≤cap+extra by omega)]
    |some mv=>
     cases hh:asNat hv with
     |none=>simp[hl,hh] at hb
     |some h'=>
      cases hm:asNat mv with
      |none=>simp[hl,hh,hm] at hb
      |some m'=>
       simp[hl,hh,hm] at hb;obtain⟨rfl,rfl,rfl,h1,h2,h3⟩:=fin hb;refine⟨?_,h1,h2,h3,fun e=>by simp at e⟩;simp[Instr.sliceBounds,Result.andThen,fj (P:=P) (w:=w) (ρ:=ρ) hl h1,fj (P:=P) (w:=w) (ρ:=ρ) hm (show m'≤cap+extra by omega),fj (P:=P) (w:=w) (ρ:=ρ) hh h2]
theorem pe(he:bG ρ D n env a){x:Operand}{lo hi mx:Option Operand}{rs:List bx}(h:qe [some x,lo,hi,mx]=some rs):
  ∃(v:AV) (l h m:Option AV),rs.map env.ev=v::(l.toList++(h.toList++m.toList))∧a.eval x=real ρ v∧v.aW D∧
   lo.map a.eval=l.map (real ρ)∧hi.map a.eval=h.map (real ρ)∧mx.map a.eval=m.map (real ρ)∧l.isSome=lo.isSome∧h.isSome=hi.isSome∧m.isSome=mx.isSome:=by
 unfold qe at h;have opt:∀(o:Option Operand) (r:List bx) (xs:List Operand),ck (o.toList++xs)=some r→∃(ov:Option AV) (r':List bx),ck xs=some r'∧r.map env.ev=ov.toList++r'.map env.ev∧
   o.map a.eval=ov.map (real ρ)∧ov.isSome=o.isSome:=by
  intro o r xs hr;cases o with
  |none=>exact⟨none,r,hr,by simp,rfl,rfl⟩
  |some y=>
   obtain⟨q,r',rfl,h1,h2⟩:=dw hr;exact⟨some (env.ev q),r',h2,by simp,by simp[(aG he h1).1],rfl⟩
 have e:([some x,lo,hi,mx]:List (Option Operand)).filterMap id=x::(lo.toList++(hi.toList++(mx.toList++[]))):=by
  cases lo<;>cases hi<;>cases mx<;>rfl
 rw[e] at h;obtain⟨q,r',rfl,h1,h2⟩:=dw h;obtain⟨l,r1,h3,e3,el,sl⟩:=opt lo _ _ h2;obtain⟨hh,r2,h4,e4,eh,sh⟩:=opt hi _ _ h3;obtain⟨m,r3,h5,e5,em,sm⟩:=opt mx _ _ h4;simp[ck] at h5;subst h5;refine⟨env.ev q,l,hh,m,?_,(aG he h1).1,(aG he h1).2,el,eh,em,sl,sh,sm⟩;simp only[List.map_cons];rw[e3,e4,e5];simp
theorem BF{t:TypeId}{x:Operand}{lo hi mx:Option Operand}{p:pQ}{rs:List bx}{v:AV}(he:bG ρ D n env a)(hc:aD P (.slice t x lo hi mx)=some (.p p,rs))(hv:pI p (rs.map env.ev)=some v):
  wR P ρ D w (do pure (.value (←Instr.sliceAt t (a.eval x) (lo.map a.eval) (hi.map a.eval) (mx.map a.eval)))) v:=by
 simp only[aD] at hc;split at hc
 ·simp at hc
 rename_i A2;have I2:mx.isSome=true→hi.isSome=true:=by
  intro h1;cases hi<;>simp_all
 split at hc
 ·rename_i e hu;split at hc
  ·rename_i size hs;simp only[Option.map_eq_some_iff] at hc;obtain⟨as,has,hq⟩:=hc;simp only[Prod.mk.injEq,fG.p.injEq] at hq;obtain⟨rfl,rfl⟩:=hq;obtain⟨xv,l,h,m,AE,ex,dx,el,eh,em,sl,sh,sm⟩:=pe he has;rw[AE,←sl,←sh,←sm] at hv;rw[←sh,←sm] at I2;rw[ex,el,eh,em];have Hp:Instr.sliceAt t (real ρ xv) (l.map (real ρ)) (h.map (real ρ)) (m.map (real ρ))=(do
     match←underlying t with
     |.array n elem=>
      let a ←Instr.sureAddr (real ρ xv)
      let(l,h,m) ←Instr.sliceBounds false n n (l.map (real ρ)) (h.map (real ρ)) (m.map (real ρ))
      let size ←sizeOf elem
      pure (.slice (some (if m=l then a else a.add (l*size))) (h-l) (m-l))
     |_=>Instr.slice t (real ρ xv) (l.map (real ρ)) (h.map (real ρ)) (m.map (real ρ))):=rfl
   cases xv with
   |sl b o len cap jv=>
    simp only[pI] at hv;split at hv
    ·rename_i l' h' mm hb;have hr:=iT (P:=P) (w:=w) (ρ:=ρ) (isSlice:=true) (extra:=cond jv (ρ b).extra 0) I2 hb;obtain⟨hrun,h1,h2,h3,h4⟩:=hr;cases hg:(Nat.beq mm l'&&Nat.beq cap mm&&(jv&&!m.isSome&&!Nat.beq l' 0)) with
     |true=>
      cases sW:m.isSome with
      |true=>rw[sW] at hg;simp at hg
      |false=>
       simp only[hg,cond_true,Option.some.injEq] at hv;subst hv;simp only[Bool.and_eq_true] at hg;obtain⟨⟨g1,g2⟩,⟨rfl,-⟩,-⟩:=hg;have g1:=Nat.eq_of_beq_eq_true g1;have g2:=Nat.eq_of_beq_eq_true g2;have gl:l'=cap:=by omega
       have gh:h'=cap:=by omega
       have gm:mm=cap:=by omega
       refine bK ?_ (by simpa[AV.aW] using dx);rw[Hp,Sem.run_bind,run_underlying hu];simp only[Result.andThen,real,Instr.slice,Sem.run_bind,run_underlying hu];simp only[cond_true,sW,cond_false] at hrun;simp only[cond_true];rw[hrun];simp only[Result.andThen,run_sizeOf hs,Sem.run_pure];simp only[gl,gh,sW,cond_false]
       congr 1
       cases hex:(ρ b).extra with
       |zero=>simp
       |succ x=>
        have hnb:Nat.beq (x+1) 0=false:=rfl;rw[if_neg (by omega)];simp only[hnb,cond_false,Option.map_some,eP,Nat.sub_self]
        congr 1
        omega
     |false=>
      simp only[hg,cond_false,Option.some.injEq] at hv;subst hv;refine bK ?_ (by simpa[AV.aW] using dx);rw[Hp,Sem.run_bind,run_underlying hu];simp only[Result.andThen,real,Instr.slice,Sem.run_bind,run_underlying hu];rw[show(cond jv (cap+(ρ b).extra) cap)=cap+cond jv (ρ b).extra 0 by cases jv<;>simp];rw[hrun];simp only[Result.andThen,run_sizeOf hs,Sem.run_pure]
      congr 1
      cases hm:m.isSome with
      |true=>
       simp only[cond_true,cond_false];by_cases tY:mm=l'
       ·have:Nat.beq mm l'=true:=by rw[tY];exact Nat.beq_refl _
        simp[tY]
       ·have:Nat.beq mm l'=false:=by
         cases AR:Nat.beq mm l' with
         |false=>rfl
         |true=>exact absurd (Nat.eq_of_beq_eq_true AR) tY
        simp[tY,this,eP]
      |false=>
       have hmc:=h4 hm;subst hmc;simp only[cond_false];cases jv with
       |false=>
        simp only[cond_false,Nat.add_zero];by_cases tY:mm=l'
        ·simp[tY]
        ·have:Nat.beq mm l'=false:=by
          cases AR:Nat.beq mm l' with
          |false=>rfl
          |true=>exact absurd (Nat.eq_of_beq_eq_true AR) tY
         simp[tY,this,eP]
       |true=>
        by_cases I1:l'=0
        ·subst I1;have Ru:cond (Nat.beq mm 0) 0 0=0:=by cases Nat.beq mm 0<;>rfl
         simp only[cond_true,Nat.zero_mul,Ru,Nat.add_zero,Nat.sub_zero,Option.map_some];split
         ·rfl
         ·rfl
        ·have hlb:Nat.beq l' 0=false:=by
          cases hq:Nat.beq l' 0 with
          |false=>rfl
          |true=>exact absurd (Nat.eq_of_beq_eq_true hq) I1
         simp only[Nat.beq_refl,Bool.and_true,hlb,hm,Bool.not_false,Bool.and_self] at hg;have hne:mm≠l':=by
          intro e;rw[e,Nat.beq_refl] at hg;simp at hg
         simp only[cond_true];rw[if_neg (by omega)];simp only[hg,cond_false,Option.map_some,eP]
         congr 1
         omega
    ·simp at hv
   |rest b o j=>
    simp only[pI] at hv;split at hv
    ·rename_i q hb;obtain⟨l',h',mm⟩:=q;cases sW:m.isSome with
     |true=>rw[sW] at hv;simp at hv
     |false=>
      rw[sW] at hv;simp only[cond_false,Option.some.injEq] at hv;subst hv;obtain⟨hrun,h1,h2,h3,h4⟩:=iT (P:=P) (w:=w) (ρ:=ρ) (isSlice:=true) (extra:=(ρ b).extra) I2 hb;have gl:l'=0:=by omega
      have gh:h'=0:=by omega
      rw[gl,gh] at hrun;simp only[sW,cond_false,Nat.zero_add] at hrun;refine bK ?_ (by simpa[AV.aW] using dx);rw[Hp,Sem.run_bind,run_underlying hu];simp only[Result.andThen,real,Instr.slice,Sem.run_bind,run_underlying hu];rw[hrun];simp only[Result.andThen,run_sizeOf hs,Sem.run_pure,Nat.zero_mul,Nat.sub_zero]
      congr 1
      split
      ·rfl
      ·simp[eP]
    ·simp at hv
   |az=>
    simp only[pI] at hv;split at hv
    ·rename_i q hb;obtain⟨l',h',mm⟩:=q;simp only[Option.some.injEq] at hv;subst hv;have hr:=iT (P:=P) (w:=w) (ρ:=ρ) (isSlice:=true) (extra:=0) I2 hb;obtain⟨hrun,h1,h2,h3,h4⟩:=hr;refine bK ?_ (by simp[AV.aW]);rw[Hp,Sem.run_bind,run_underlying hu];simp only[Result.andThen,real,Instr.slice,Sem.run_bind,run_underlying hu];simp only[Nat.add_zero] at hrun;rw[hrun];simp only[Result.andThen,run_sizeOf hs,Sem.run_pure];have hm0:mm=0:=by omega
     have XN:h'=0:=by omega
     have I1:l'=0:=by omega
     subst hm0 XN I1;cases m.isSome<;>simp
    ·simp at hv
   |fE wa=>
    simp only[pI] at hv;split at hv
    ·rename_i q hb;obtain⟨l',h',mm⟩:=q;simp only[Option.some.injEq] at hv;subst hv;have hr:=iT (P:=P) (w:=w) (ρ:=ρ) (isSlice:=true) (extra:=0) I2 hb;obtain⟨hrun,h1,h2,h3,h4⟩:=hr;refine bK ?_ (by simp[AV.aW]);rw[Hp,Sem.run_bind,run_underlying hu];simp only[Result.andThen,real,Instr.slice,Sem.run_bind,run_underlying hu];simp only[Nat.add_zero] at hrun;rw[hrun];simp only[Result.andThen,run_sizeOf hs,Sem.run_pure];have hm0:mm=0:=by omega
     have XN:h'=0:=by omega
     have I1:l'=0:=by omega
     subst hm0 XN I1;cases m.isSome<;>simp
    ·simp at hv
   |_=>simp[pI] at hv
  ·simp at hc
 ·rename_i hu;split at hc
  ·simp at hc
  rename_i hmn;have XY:mx=none:=by cases mx<;>simp_all
  subst XY;simp only[Option.map_eq_some_iff] at hc;obtain⟨as,has,hq⟩:=hc;simp only[Prod.mk.injEq,fG.p.injEq] at hq;obtain⟨rfl,rfl⟩:=hq;have Xv:qe [some x,lo,hi,none]=some as:=has;obtain⟨xv,l,h,m,AE,ex,dx,el,eh,em,sl,sh,sm⟩:=pe he Xv;have hm:m=none:=by cases m<;>simp_all
  subst hm;rw[AE,←sl,←sh] at hv;rw[ex,el,eh];cases xv with
  |str s=>
   simp only[pI] at hv;split at hv
   ·rename_i l' h' mm hb;simp only[Option.some.injEq] at hv;subst hv;have hr:=iT (P:=P) (w:=w) (ρ:=ρ) (isSlice:=false) (extra:=0) (lo:=l) (hi:=h) (mx:=none) (by simp) hb;obtain⟨hrun,h1,h2,h3,h4⟩:=hr;refine bK ?_ (by simp[AV.aW]);simp only[Instr.sliceAt,Sem.run_bind,run_underlying hu,Result.andThen,real,Instr.slice,Option.map_none,Option.isSome_none,Bool.false_eq_true,if_false,Sem.run_pure];simp only[Nat.add_zero,Option.map_none] at hrun;rw[show(⟨s.toArray⟩:ByteArray).size=s.length by simp[ByteArray.size],hrun];simp only[Result.andThen]
    congr 2
    apply ByteArray.ext;rw[ByteArray.data_extract];apply Array.ext';simp[List.extract_eq_take_drop];rw[List.drop_take]
   ·simp at hv
  |_=>simp[pI] at hv
 ·rename_i len e hu;split at hc
  ·rename_i size hs;simp only[Option.map_eq_some_iff] at hc;obtain⟨as,has,hq⟩:=hc;simp only[Prod.mk.injEq,fG.p.injEq] at hq;obtain⟨rfl,rfl⟩:=hq;obtain⟨xv,l,h,m,AE,ex,dx,el,eh,em,sl,sh,sm⟩:=pe he has;rw[AE,←sl,←sh,←sm] at hv;rw[←sh,←sm] at I2;rw[ex,el,eh,em];cases xv with
   |ptr b o=>
    simp only[pI] at hv;split at hv
    ·rename_i l' h' mm hb;simp only[Option.some.injEq] at hv;subst hv;have hr:=iT (P:=P) (w:=w) (ρ:=ρ) (isSlice:=false) (extra:=0) I2 hb;obtain⟨hrun,h1,h2,h3,h4⟩:=hr;refine bK ?_ (by simpa[AV.aW] using dx);simp only[Nat.add_zero] at hrun;simp only[Instr.sliceAt,Sem.run_bind,run_underlying hu,Result.andThen,real,Instr.sureAddr,Sem.run_pure];rw[hrun];simp only[Result.andThen,run_sizeOf hs,Sem.run_pure];have XX:cond m.isSome mm len=mm:=by
      cases hm:m.isSome with
      |true=>rfl
      |false=>exact(h4 hm).symm
     rw[XX]
     congr 2
     by_cases tY:mm=l'
     ·simp[tY]
     ·have:Nat.beq mm l'=false:=by
       cases AR:Nat.beq mm l' with
       |false=>rfl
       |true=>exact absurd (Nat.eq_of_beq_eq_true AR) tY
      simp[tY,this,eP]
    ·simp at hv
   |_=>simp[pI] at hv
  ·simp at hc
 ·simp at hc
end
end Ads
end Go.Proofs.YtmnolnoeibhjgaaGreat
set_option linter.unusedSimpArgs false
set_option linter.unusedVariables false
namespace Go.Proofs.YtmnolnoeibhjgaaGreat
namespace Ads
section
variable {P:Program} {ρ:cG} {D:Dom} {w:World} {n:Nat} {env:Env} {a:Act}
theorem Dh{u:UnOp}{t:TypeId}{x:Operand}{p:pQ}{rs:List bx}{v:AV}(he:bG ρ D n env a)(hc:aD P (.unOp u t x)=some (.p p,rs))(hv:pI p (rs.map env.ev)=some v):
  wR P ρ D w (do pure (.value (←Op.unary u (a.eval x)))) v:=by
 cases u<;>simp only[aD] at hc
 case not=>
  obtain⟨hq,r,rfl,e1,d1⟩:=ee he hc;simp only[fG.p.injEq] at hq;subst hq;simp only[List.map_cons,List.map_nil] at hv;rw[e1];cases hr:env.ev r with
  |bool b=>
   rw[hr] at hv;simp only[pI,Option.some.injEq] at hv;subst hv;exact bK (by simp[Op.unary,real]) (by simp[AV.aW])
  |_=>rw[hr] at hv;simp[pI] at hv
 case neg=>
  obtain⟨hq,r,rfl,e1,d1⟩:=ee he hc;simp only[fG.p.injEq] at hq;subst hq;simp only[List.map_cons,List.map_nil] at hv;rw[e1];cases hr:env.ev r with
  |int k m=>
   rw[hr] at hv;simp only[pI,Option.some.injEq] at hv;subst hv;exact bK (by simp[Op.unary,Op.intArith,real]) (by simp[AV.aW])
  |_=>rw[hr] at hv;simp[pI] at hv
 all_goals simp at hc
theorem xu{t:TypeId}{x:Operand}{p:pQ}{rs:List bx}{v:AV}(he:bG ρ D n env a)(hc:aD P (.makeInterface t x)=some (.p p,rs))(hv:pI p (rs.map env.ev)=some v):
  wR P ρ D w (do pure (.value (←Instr.makeInterface t (a.eval x)))) v:=by
 simp only[aD] at hc;split at hc
 ·simp at hc
 ·rename_i d hni hu;obtain⟨hq,r,rfl,e1,d1⟩:=ee he hc;simp only[fG.p.injEq] at hq;subst hq;simp only[List.map_cons,List.map_nil,pI,Option.some.injEq] at hv;subst hv;rw[e1];refine bK ?_ (by simpa[AV.aW] using d1);unfold Instr.makeInterface;rw[Sem.run_bind,run_underlying hu];simp only[Result.andThen];simp[real]
 ·simp at hc
theorem zq{fn:Fn}{first aO:Array Operand}{p:pQ}{rs:List bx}{v:AV}(he:bG ρ D n env a)(hc:aD P (.makeFunc fn first aO)=some (.p p,rs))(hv:pI p (rs.map env.ev)=some v):
  wR P ρ D w (do pure (.value (←Instr.makeFunc fn (first.map a.eval) (aO.map a.eval)))) v:=by
 simp only[aD] at hc;split at hc
 ·simp at hc
 ·rename_i hny;obtain⟨rs',h1,h2⟩:=bh hc;simp only[Prod.mk.injEq,fG.p.injEq] at h2;obtain⟨rfl,rfl⟩:=h2;simp only[pI,Option.some.injEq] at hv;subst hv;have hr:=gH he h1;have hlen:(rs.map env.ev).length=first.toList.length+aO.toList.length:=by
   have:=congrArg List.length hr.1;simp[aM] at this⊢;omega
  have hd:=(aN D _).1 hr.2;refine bK ?_ ?_
  ·simp only[Instr.makeFunc,Sem.run_pure,real,wh,wg,←hr.1]
   congr 2
   ·apply Array.ext';simp
   ·apply Array.ext';simp
  ·simp only[AV.aW,aN];exact⟨hny,fun x hx=>hd x (List.mem_of_mem_take hx),fun x hx=>hd x (List.mem_of_mem_drop hx)⟩
theorem xA{t xt:TypeId}{x:Operand}{ok:Bool}{p:pQ}{rs:List bx}{v:AV}(he:bG ρ D n env a)(hc:aD P (.typeAssert x xt t ok)=some (.p p,rs))(hv:pI p (rs.map env.ev)=some v):
  wR P ρ D w (do pure (.value (←Instr.typeAssert (a.eval x) xt t ok))) v:=by
 simp only[aD] at hc;split at hc
 ·simp at hc
 ·rename_i d dx hni hu hux;simp only[Option.bind_eq_some_iff] at hc;obtain⟨z,hz,hc⟩:=hc;obtain⟨hq,r,rfl,e1,d1⟩:=ee he hc;simp only[fG.p.injEq] at hq;subst hq;simp only[List.map_cons,List.map_nil] at hv;rw[e1];have xq:=cS (P:=P) (w:=w) hz ρ D;have key:∀(xv:Value),(Instr.typeAssert xv xt t ok).run P w=(match xv with
    |.nilIface=>(if ok then(do pure (.tuple #[←zeroValue t,.bool false]):Sem Value) else runtimePanic (.typeAssertion (some xt) none t "")).run P w
    |.iface u y=>if u=t then(pure (if ok then .tuple #[y,.bool true] else y):Sem Value).run P w else(if ok then(do pure (.tuple #[←zeroValue t,.bool false]):Sem Value) else runtimePanic (.typeAssertion (some xt) (some u) t "")).run P w
    |_=>(Instr.typeAssert xv xt t ok).run P w):=by
   intro xv;cases xv with
   |nilIface=>
    unfold Instr.typeAssert;rw[Sem.run_bind,run_underlying hu];try simp only[Result.andThen]
    all_goals (cases d<;>first|(exfalso;exact hni _ rfl)|rfl|(split<;>rfl))
   |iface u y=>
    unfold Instr.typeAssert;rw[Sem.run_bind,run_underlying hu];try simp only[Result.andThen]
    all_goals (cases d<;>first|(exfalso;exact hni _ rfl)|rfl|(split<;>rfl))
   |_=>rfl
  cases hr:env.ev r with
  |iface u y=>
   rw[hr] at hv d1;simp only[pI] at hv;simp only[AV.aW] at d1;cases hb:Nat.beq u t with
   |true=>
    have Um:=Nat.eq_of_beq_eq_true hb;simp only[hb,cond_true] at hv;cases ok with
    |true=>
     simp only[cond_true,Option.some.injEq] at hv;subst hv;refine bK ?_ (by simp[AV.aW,bl,d1]);simp[key,real,aq,Um]
    |false=>
     simp only[cond_false,Option.some.injEq] at hv;subst hv;refine bK ?_ d1;simp[key,real,Um]
   |false=>
    have Um:u≠t:=fun e=>by rw[e,Nat.beq_refl] at hb;simp at hb
    simp only[hb,cond_false] at hv;cases ok with
    |true=>
     simp only[cond_true,Option.some.injEq] at hv;subst hv;refine bK ?_ (by simp[AV.aW,bl,xq.2]);simp[key,real,aq,Um,xq.1,Result.andThen]
    |false=>simp at hv
  |ja=>
   rw[hr] at hv;simp only[pI] at hv;cases ok with
   |true=>
    simp only[cond_true,Option.some.injEq] at hv;subst hv;refine bK ?_ (by simp[AV.aW,bl,xq.2]);simp[key,real,aq,xq.1,Result.andThen]
   |false=>simp at hv
  |_=>rw[hr] at hv;simp[pI] at hv
 ·simp at hc
theorem xU:∀(r:List AV) (x v:AV),kq max2 x r=some v→((aq ρ r).foldlM Builtin.max2 (real ρ x)).run P w=.ok (real ρ v) w∧(x.aW D→v.aW D)
 |[],x,v,h=>by simp[kq] at h;subst h;simp[aq]
 |y::r,x,v,h=>by
  simp only[kq] at h;cases hz:max2 x y with
  |none=>simp[hz] at h
  |some z=>
   simp only[hz] at h;have ih:=xU r z v h;simp only[aq,List.foldlM_cons,Sem.run_bind];cases x<;>cases y<;>simp[max2] at hz
   subst hz;refine⟨?_,fun _=>ih.2 (by simp[AV.aW])⟩;rw[←ih.1];simp only[real,Builtin.max2,Sem.run_pure,Result.andThen]
   congr 2
   rename_i k p k' q;by_cases hpq:q>p<;>simp[hpq]
theorem xV:∀(r:List AV) (x v:AV),kq min2 x r=some v→((aq ρ r).foldlM Builtin.min2 (real ρ x)).run P w=.ok (real ρ v) w∧(x.aW D→v.aW D)
 |[],x,v,h=>by simp[kq] at h;subst h;simp[aq]
 |y::r,x,v,h=>by
  simp only[kq] at h;cases hz:min2 x y with
  |none=>simp[hz] at h
  |some z=>
   simp only[hz] at h;have ih:=xV r z v h;simp only[aq,List.foldlM_cons,Sem.run_bind];cases x<;>cases y<;>simp[min2] at hz
   subst hz;refine⟨?_,fun _=>ih.2 (by simp[AV.aW])⟩;rw[←ih.1];simp only[real,Builtin.min2,Sem.run_pure,Result.andThen]
   congr 2
   rename_i k p k' q;by_cases hpq:q<p<;>simp[hpq]
theorem gW(o:Oper)(c:Call)(b:Builtin)(ho:o.op=.call c)(hb:c.callee=.builtin b):
  execOp a.eval o=builtin b c.argTypes o.type (c.args.map fun|.const _=>true|_=>false) (c.args.map a.eval):=by
 unfold execOp;rw[ho];simp only[resolve,hb];rfl
theorem dZ{c:Call}{xs:List Operand}{ys:List Value}(h:c.args.toList=xs)(e:xs.map a.eval=ys):c.args.map a.eval=ys.toArray:=by
 apply Array.ext';rw[Array.toList_map,h,e]
theorem m8{c:Call}{ts:List TypeId}(h:c.argTypes.toList=ts):c.argTypes=ts.toArray:=by
 apply Array.ext';rw[h]
theorem xh{o:Oper}{c:Call}{p:pQ}{rs:List bx}{v:AV}(he:bG ρ D n env a)(ho:o.op=.call c)(hc:aD P (.call c)=some (.p p,rs))(hv:pI p (rs.map env.ev)=some v):
  wR P ρ D w (execOp a.eval o) v:=by
 simp only[aD] at hc;split at hc
 ·rename_i f _;simp only[Option.map_eq_some_iff] at hc;obtain⟨_,_,h2⟩:=hc;simp at h2
 ·simp only[Option.map_eq_some_iff] at hc;obtain⟨_,_,h2⟩:=hc;simp at h2
 ·rename_i b hcb;rw[gW o c b ho hcb];split at hc
  ·rename_i x t hargs ey;rw[m8 ey];split at hc
   ·rename_i e hu;obtain⟨hq,r,rfl,e1,d1⟩:=ee he hc;simp only[fG.p.injEq] at hq;subst hq;rw[dZ hargs (ys:=[real ρ (env.ev r)]) (by simp[e1])];simp only[List.map_cons,List.map_nil] at hv;cases hr:env.ev r with
    |sl b o len cap jv=>
     rw[hr] at hv;simp only[pI,Option.some.injEq] at hv;subst hv;refine bK ?_ (by simp[AV.aW]);simp[Builtin.len_,run_underlying hu,Result.andThen,real,goInt]
    |az=>
     rw[hr] at hv;simp only[pI,Option.some.injEq] at hv;subst hv;refine bK ?_ (by simp[AV.aW]);simp[Builtin.len_,run_underlying hu,Result.andThen,real,goInt]
    |fE a=>
     rw[hr] at hv;simp only[pI,Option.some.injEq] at hv;subst hv;refine bK ?_ (by simp[AV.aW]);simp[Builtin.len_,run_underlying hu,Result.andThen,real,goInt]
    |rest b o k=>
     rw[hr] at hv;simp only[pI,Option.some.injEq] at hv;subst hv;refine bK ?_ (by simp[AV.aW]);simp[Builtin.len_,run_underlying hu,Result.andThen,real,goInt]
    |_=>rw[hr] at hv;simp[pI] at hv
   ·rename_i hu;obtain⟨hq,r,rfl,e1,d1⟩:=ee he hc;simp only[fG.p.injEq] at hq;subst hq;rw[dZ hargs (ys:=[real ρ (env.ev r)]) (by simp[e1])];simp only[List.map_cons,List.map_nil] at hv;cases hr:env.ev r with
    |str s=>
     rw[hr] at hv;simp only[pI,Option.some.injEq] at hv;subst hv;refine bK ?_ (by simp[AV.aW]);have hsz:(⟨s.toArray⟩:ByteArray).size=s.length:=by simp only[ByteArray.size,List.size_toArray]
     simp[Builtin.len_,run_underlying hu,Result.andThen,real,goInt,hsz,-ByteArray.size_data]
    |_=>rw[hr] at hv;simp[pI] at hv
   ·rename_i k e hu;obtain⟨hq,r,rfl,e1,d1⟩:=ee he hc;simp only[fG.p.injEq] at hq;subst hq;rw[dZ hargs (ys:=[real ρ (env.ev r)]) (by simp[e1])];simp only[List.map_cons,List.map_nil,pI,Option.some.injEq] at hv;subst hv;refine bK ?_ (by simp[AV.aW]);simp[Builtin.len_,run_underlying hu,Result.andThen,real,goInt]
   ·obtain⟨hq,_⟩:=ee he hc;simp at hq
   ·rename_i arr hu;split at hc
    ·rename_i k e hu2;obtain⟨hq,r,rfl,e1,d1⟩:=ee he hc;simp only[fG.p.injEq] at hq;subst hq;rw[dZ hargs (ys:=[real ρ (env.ev r)]) (by simp[e1])];simp only[List.map_cons,List.map_nil,pI,Option.some.injEq] at hv;subst hv;refine bK ?_ (by simp[AV.aW]);simp[Builtin.len_,run_underlying hu,run_underlying hu2,Result.andThen,real,goInt]
    ·simp at hc
   ·simp at hc
  ·rename_i x xs ts hargs;obtain⟨rs',h1,h2⟩:=bh hc;simp only[Prod.mk.injEq,fG.p.injEq] at h2;obtain⟨rfl,rfl⟩:=h2;obtain⟨r,YO,rfl,rK,kN⟩:=dw h1;have e1:=aG he rK;have e2:=gH he kN;rw[dZ hargs (ys:=real ρ (env.ev r)::aq ρ (YO.map env.ev)) (by simp[e1.1,←e2.1])];simp only[List.map_cons,pI] at hv;have:=xU (P:=P) (w:=w) (D:=D) (ρ:=ρ) _ _ _ hv;refine bK ?_ (this.2 e1.2);simpa[Builtin.max_] using this.1
  ·rename_i x xs ts hargs;obtain⟨rs',h1,h2⟩:=bh hc;simp only[Prod.mk.injEq,fG.p.injEq] at h2;obtain⟨rfl,rfl⟩:=h2;obtain⟨r,YO,rfl,rK,kN⟩:=dw h1;have e1:=aG he rK;have e2:=gH he kN;rw[dZ hargs (ys:=real ρ (env.ev r)::aq ρ (YO.map env.ev)) (by simp[e1.1,←e2.1])];simp only[List.map_cons,pI] at hv;have:=xV (P:=P) (w:=w) (D:=D) (ρ:=ρ) _ _ _ hv;refine bK ?_ (this.2 e1.2);simpa[Builtin.min_] using this.1
  ·split at hc
   ·split at hc
    ·simp at hc
    ·split at hc
     ·split at hc
      ·simp at hc
      ·obtain⟨hq,_⟩:=qb he hc;simp at hq
     ·simp at hc
   ·simp at hc
  ·split at hc
   ·simp only[Option.bind_eq_some_iff] at hc;obtain⟨k,hk,hc⟩:=hc;obtain⟨hq,_⟩:=qb he hc;simp at hq
   ·simp at hc
  ·split at hc
   ·simp only[Option.bind_eq_some_iff] at hc;obtain⟨k,hk,hc⟩:=hc;obtain⟨hq,_⟩:=ee he hc;simp at hq
   ·obtain⟨hq,_⟩:=ee he hc;simp at hq
   ·simp at hc
  ·split at hc
   ·split at hc
    ·obtain⟨_,_,h2⟩:=bh hc;simp at h2
    ·simp at hc
   ·simp at hc
  ·simp at hc
theorem vX{o:Oper}{p:pQ}{rs:List bx}{v:AV}(he:bG ρ D n env a)(hc:aD P o.op=some (.p p,rs))(hv:pI p (rs.map env.ev)=some v):
  wR P ρ D w (execOp a.eval o) v:=by
 have eE:=hc;cases ho:o.op<;>rw[ho] at hc
 case move x=>
  have:=vQ he hc hv;unfold execOp;rw[ho];exact⟨by simp only[Sem.run_pure];rw[this.1],this.2⟩
 case assign x=>
  have:=vQ he hc hv;unfold execOp;rw[ho];exact⟨by simp only[Sem.run_pure];rw[this.1],this.2⟩
 case pick c x y=>
  unfold execOp;rw[ho];exact CW he hc hv
 case build t ps=>
  unfold execOp;rw[ho];exact As he hc hv
 case nilCheck x=>exact vS he o ho hc hv
 case binOp op t x y yt=>exact Ap he ho eE hv
 case unOp u t x=>
  unfold execOp;rw[ho];exact Dh he hc hv
 case convert s d x=>
  unfold execOp;rw[ho];exact Ck he hc hv
 case makeInterface t x=>
  unfold execOp;rw[ho];exact xu he hc hv
 case makeFunc fn f c=>
  unfold execOp;rw[ho];exact zq he hc hv
 case slice t x lo hi mx=>
  unfold execOp;rw[ho];exact BF he hc hv
 case fieldAddr t x i=>
  unfold execOp;rw[ho];exact uy he hc hv
 case field t x i=>
  unfold execOp;rw[ho];exact AI he hc hv
 case indexAddr t x y=>
  unfold execOp;rw[ho];exact uB he hc hv
 case index t x y=>
  unfold execOp;rw[ho];exact Bd he hc hv
 case typeAssert x xt t ok=>
  unfold execOp;rw[ho];exact xA he hc hv
 case extract x i=>
  unfold execOp;rw[ho];exact xm he hc hv
 case call c=>exact xh he ho hc hv
 case makeMap t r=>
  exfalso;cases r with
  |none=>
   simp only[aD] at hc;obtain⟨_,_,h2⟩:=bh hc;simp at h2
  |some r=>simp[aD] at hc
 case next it s=>
  exfalso;cases s with
  |true=>simp[aD] at hc
  |false=>
   simp only[aD] at hc;obtain⟨_,_,h2⟩:=bh hc;simp at h2
 all_goals (exfalso;simp only[aD] at hc)
 all_goals repeat' (first
  |(simp only[Option.bind_eq_some_iff] at hc;obtain⟨_,_,hc⟩:=hc)
  |(simp only[Option.map_eq_some_iff] at hc;obtain⟨_,_,hc⟩:=hc;simp at hc;done)
  |(obtain⟨_,_,h2⟩:=bh hc;simp at h2;done)
  |(simp at hc;done)
  |(split at hc))
end
end Ads
end Go.Proofs.YtmnolnoeibhjgaaGreat
