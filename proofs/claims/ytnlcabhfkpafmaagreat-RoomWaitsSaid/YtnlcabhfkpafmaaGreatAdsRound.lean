/-
  What big steps mean in the model: calls of values and of methods; ranges over functions.
-/
import Derived.Test.YtnlcabhfkpafmaaGreatAdsCall
import Derived.RangeFuncCalls
set_option linter.unusedSimpArgs false
set_option linter.unusedVariables false
namespace Go.Proofs.YtnlcabhfkpafmaaGreat
namespace Ads
section
variable {P:Program} {H0 W0:Nat} {ρ ρ':cI} {D D':Dom} {h h' h1 h2:Heap} {w w':World} {N n:Nat} {env e e':Env} {a:Act} {ro:Option Nat} {rd:Bool}
theorem vG{f:Nat}{args:Array Value}{R:Ending→World→Prop}(hc:CallsIn Fence.wide n P f args w R):CallsIn (FW ro) n P f args w R:=by
 cases ro with
 |none=>exact hc
 |some l=>exact CallsIn.inRound l hc
theorem zg{o:Oper}{f:Nat}{args:List AV}{v:AV}{next:Act→World→Prop}{Q:Exit→Act→World→Prop}(hc:gE P H0 f args h v h1)(hi:Inv P H0 ρ D h w)(hd:bh D args)
  (hk:∀ρ' w',Inv P H0 ρ' (grow D h.next h1.next) h1 w'→Ext ρ D h w ρ' h1 w'→v.aV (grow D h.next h1.next)→next (a.put o.dst (real ρ' v)) w'):
  o.uponIn (FW ro) n P a next Q (.ok (.enter f (an ρ args).toArray) w):=by
 refine⟨fun hh=>by simp[FW,Fence.wide] at hh,?_⟩;refine CallsIn.mono (vG (hc ρ D w (n-1) hi hd)) ?_;rintro e w' ⟨ρ',rfl,g1,g2,g3⟩;exact hk ρ' w' g1 g2 g3
theorem CP{f:Nat}{first aF args:List AV}{v:AV}(hc:gE P H0 f (first++(args++aF)) h v h1)(tZ:∀(args:Array Value) (w:World),(callFunc f args).run P w=.ok (.enter f args) w):
  sw P H0 (.func (.func f) first aF) args h v h1:=by
 intro ρ D w hi hf hd o a ro n next Q hk
 simp only[AV.aV] at hf;have hrun:((do let d ←Deferred.ofValue (real ρ (.func (.func f) first aF)) (an ρ args).toArray;invoke d.target d.args:Sem Next).run P w)=.ok (.enter f (an ρ (first++(args++aF))).toArray) w:=by
  simp only[real,Deferred.ofValue,Sem.run_bind,Sem.run_pure,Result.andThen,invoke,tZ]
  congr 2
  simp[iz]
 rw[hrun];have hda:bh D (first++(args++aF)):=by
  rw[aP];intro x hx;rcases List.mem_append.1 hx with hx|hx
  ·exact(aP D _).1 hf.2.1 x hx
  ·rcases List.mem_append.1 hx with hx|hx
   ·exact(aP D _).1 hd x hx
   ·exact(aP D _).1 hf.2.2 x hx
 exact zg hc hi hda hk
theorem xo{o:Oper}{f:Nat}{args:List AV}{v:AV}{next:Act→World→Prop}{Q:Exit→Act→World→Prop}(hc:m9 P H0 f args h v h1)(hi:Inv P H0 ρ D h w)(hd:bh D args)
  (hk:∀ρ' w',Inv P H0 ρ' (grow D h.next h1.next) h1 w'→Ext ρ D h w ρ' h1 w'→v.aV (grow D h.next h1.next)→Q (.panic [{v:=real ρ' v,recovered:=false}]) a w'):
  o.uponIn (FW ro) n P a next Q (.ok (.enter f (an ρ args).toArray) w):=by
 refine⟨fun hh=>by simp[FW,Fence.wide] at hh,?_⟩;refine CallsIn.mono (vG (hc ρ D w (n-1) hi hd)) ?_;rintro e w' ⟨ρ',rfl,g1,g2,g3⟩;exact hk ρ' w' g1 g2 g3
theorem A9{f:Nat}{first aF args:List AV}{v:AV}(hc:m9 P H0 f (first++(args++aF)) h v h1)(tZ:∀(args:Array Value) (w:World),(callFunc f args).run P w=.ok (.enter f args) w):
  qj P H0 (.func (.func f) first aF) args h v h1:=by
 intro ρ D w hi hf hd o a ro n next Q hk
 simp only[AV.aV] at hf;have hrun:((do let d ←Deferred.ofValue (real ρ (.func (.func f) first aF)) (an ρ args).toArray;invoke d.target d.args:Sem Next).run P w)=.ok (.enter f (an ρ (first++(args++aF))).toArray) w:=by
  simp only[real,Deferred.ofValue,Sem.run_bind,Sem.run_pure,Result.andThen,invoke,tZ]
  congr 2
  simp[iz]
 rw[hrun];have hda:bh D (first++(args++aF)):=by
  rw[aP];intro x hx;rcases List.mem_append.1 hx with hx|hx
  ·exact(aP D _).1 hf.2.1 x hx
  ·rcases List.mem_append.1 hx with hx|hx
   ·exact(aP D _).1 hd x hx
   ·exact(aP D _).1 hf.2.2 x hx
 exact xo hc hi hda hk
theorem yw{o:Op}{rs:List bE}(h:az P o=some (.call,rs)):∃c f,o=.call c∧c.callee=.value f∧cn (f::c.args.toList)=some rs:=by
 cases o<;>simp only[az] at h
 case call c=>
  split at h
  ·rename_i f hcb;simp only[Option.map_eq_some_iff,Prod.mk.injEq] at h;obtain⟨rs',h1,_,rfl⟩:=h;exact⟨c,f,rfl,hcb,h1⟩
  ·simp only[Option.map_eq_some_iff] at h;obtain⟨_,_,h⟩:=h;simp at h
  ·exfalso;repeat' (first
    |(simp only[Option.bind_eq_some_iff] at h;obtain⟨_,_,h⟩:=h)
    |(obtain⟨_,_,h2⟩:=bg h;simp at h2;done)
    |(simp at h;done)
    |(split at h))
 case unOp u t x=>
  exfalso;cases u<;>simp only[az] at h<;>first
   |(obtain⟨_,_,h2⟩:=bg h;simp at h2;done)
   |(simp at h;done)
 case next it s=>
  exfalso;cases s with
  |true=>simp[az] at h
  |false=>simp only[az] at h;obtain⟨hq,_⟩:=aT h;simp at hq
 case makeMap t r=>
  exfalso;cases r with
  |none=>simp only[az] at h;obtain⟨hq,_⟩:=aT h;simp at hq
  |some r=>simp[az] at h
 all_goals exfalso
 all_goals repeat' (first
  |(simp only[Option.bind_eq_some_iff] at h;obtain⟨_,_,h⟩:=h)
  |(simp only[Option.map_eq_some_iff] at h;obtain⟨_,_,h⟩:=h;simp at h;done)
  |(obtain⟨_,_,h2⟩:=bg h;simp at h2;done)
  |(simp at h;done)
  |(split at h))
theorem uy{o:Op}{rs:List bE}{name:String}(h:az P o=some (.invoke name,rs)):∃c r,o=.call c∧c.callee=.invoke r name∧cn (r::c.args.toList)=some rs:=by
 cases o<;>simp only[az] at h
 case call c=>
  split at h
  ·simp only[Option.map_eq_some_iff] at h;obtain⟨_,_,h⟩:=h;simp at h
  ·rename_i r nm hcb;simp only[Option.map_eq_some_iff,Prod.mk.injEq,fZ.invoke.injEq] at h;obtain⟨rs',h1,rfl,rfl⟩:=h;exact⟨c,r,rfl,hcb,h1⟩
  ·exfalso;repeat' (first
    |(simp only[Option.bind_eq_some_iff] at h;obtain⟨_,_,h⟩:=h)
    |(obtain⟨_,_,h2⟩:=bg h;simp at h2;done)
    |(simp at h;done)
    |(split at h))
 case unOp u t x=>
  exfalso;cases u<;>simp only[az] at h<;>first
   |(obtain⟨_,_,h2⟩:=bg h;simp at h2;done)
   |(simp at h;done)
 case next it s=>
  exfalso;cases s with
  |true=>simp[az] at h
  |false=>simp only[az] at h;obtain⟨hq,_⟩:=aT h;simp at hq
 case makeMap t r=>
  exfalso;cases r with
  |none=>simp only[az] at h;obtain⟨hq,_⟩:=aT h;simp at hq
  |some r=>simp[az] at h
 all_goals exfalso
 all_goals repeat' (first
  |(simp only[Option.bind_eq_some_iff] at h;obtain⟨_,_,h⟩:=h)
  |(simp only[Option.map_eq_some_iff] at h;obtain⟨_,_,h⟩:=h;simp at h;done)
  |(obtain⟨_,_,h2⟩:=bg h;simp at h2;done)
  |(simp at h;done)
  |(split at h))
theorem GZ{fv:AV}{args:List AV}{v:AV}(hc:sw P H0 fv args h v h1):uS P H0 .call (fv::args) h v h1:=by
 intro o rs EK ρ D w a N env ro n hi he hv next Q hk
 obtain⟨c,f,ho,hcb,Dp⟩:=yw EK;obtain⟨r,rs',rfl,h1,h2⟩:=dF Dp;simp only[List.map_cons,List.cons.injEq] at hv;have e1:=aD he h1;have e2:=gW he h2;rw[hv.1] at e1;rw[hv.2] at e2;refine gH EK ?_;have hex:execOp a.eval o=(do let d ←Deferred.ofValue (real ρ fv) (an ρ args).toArray;invoke d.target d.args:Sem Next):=by
  unfold execOp;rw[ho];simp only[resolve,hcb];rw[e1.1,eB rfl e2.1]
 rw[hex];exact hc ρ D w hi e1.2 e2.2 o a ro n next Q hk
theorem DG{fv:AV}{args:List AV}{v:AV}(hc:qj P H0 fv args h v h1):mY P H0 .call (fv::args) h v h1:=by
 intro o rs EK ρ D w a N env ro n hi he hv next Q hk
 obtain⟨c,f,ho,hcb,Dp⟩:=yw EK;obtain⟨r,rs',rfl,h1,h2⟩:=dF Dp;simp only[List.map_cons,List.cons.injEq] at hv;have e1:=aD he h1;have e2:=gW he h2;rw[hv.1] at e1;rw[hv.2] at e2;refine gH EK ?_;have hex:execOp a.eval o=(do let d ←Deferred.ofValue (real ρ fv) (an ρ args).toArray;invoke d.target d.args:Sem Next):=by
  unfold execOp;rw[ho];simp only[resolve,hcb];rw[e1.1,eB rfl e2.1]
 rw[hex];exact hc ρ D w hi e1.2 e2.2 o a ro n next Q hk
theorem CT{o:Op}{rs:List bE}(h:az P o=some (.panic,rs)):∃x r,o=.panic x∧dD x=some r∧rs=[r]:=by
 cases o<;>simp only[az] at h
 case panic x=>
  obtain⟨_,h2⟩:=aT h;obtain⟨r,rs',rfl,h3,h4⟩:=dF h2;simp[cn] at h4;subst h4;exact⟨x,r,rfl,h3,rfl⟩
 case unOp u t x=>
  exfalso;cases u<;>simp only[az] at h<;>first
   |(obtain⟨_,_,h2⟩:=bg h;simp at h2;done)
   |(simp at h;done)
 case next it s=>
  exfalso;cases s with
  |true=>simp[az] at h
  |false=>simp only[az] at h;obtain⟨hq,_⟩:=aT h;simp at hq
 case makeMap t r=>
  exfalso;cases r with
  |none=>simp only[az] at h;obtain⟨hq,_⟩:=aT h;simp at hq
  |some r=>simp[az] at h
 all_goals exfalso
 all_goals repeat' (first
  |(simp only[Option.bind_eq_some_iff] at h;obtain⟨_,_,h⟩:=h)
  |(simp only[Option.map_eq_some_iff] at h;obtain⟨_,_,h⟩:=h;simp at h;done)
  |(obtain⟨_,_,h2⟩:=bg h;simp at h2;done)
  |(simp at h;done)
  |(split at h))
theorem DH{t:Nat}{x:AV}:mY P H0 .panic [.iface t x] h (.iface t x) h:=by
 intro o rs EK ρ D w a N env ro n hi he hv next Q hk
 obtain⟨y,r,ho,hr,rfl⟩:=CT EK;simp only[List.map_cons,List.map_nil,List.cons.injEq,and_true] at hv;have e1:=aD he hr;rw[hv] at e1;refine gH EK ?_;have hex:(execOp a.eval o).run P w=.halt (.panic (real ρ (.iface t x))) w:=by
  unfold execOp;rw[ho];simp only[e1.1,real];simp[Instr.panic,Sem.run_bind,Result.andThen]
 rw[hex];exact hk ρ w (by rw[bn];exact hi) (Ext.refl _ _ _ _) (by rw[bn];exact e1.2)
theorem B6{fs:Nat→Option aq}{ms:Nat→String→Option Nat}(sys:lS P fs ms){name:String}{t f:Nat}{x:AV}{args:List AV}{v:AV}(hm:ms t name=some f)
  (hc:gE P H0 f (x::args) h v h1)(tZ:∀(args:Array Value) (w:World),(callFunc f args).run P w=.ok (.enter f args) w):uS P H0 (.invoke name) (.iface t x::args) h v h1:=by
 intro o rs EK ρ D w a N env ro n hi he hv next Q hk
 obtain⟨c,r,ho,hcb,Dp⟩:=uy EK;obtain⟨q,rs',rfl,h1,h2⟩:=dF Dp;simp only[List.map_cons,List.cons.injEq] at hv;have e1:=aD he h1;have e2:=gW he h2;rw[hv.1] at e1;rw[hv.2] at e2;refine gH EK ?_;have hrun:(execOp a.eval o).run P w=.ok (.enter f (an ρ (x::args)).toArray) w:=by
  unfold execOp;rw[ho];simp only[resolve,hcb];rw[e1.1,eB rfl e2.1];simp only[Sem.run_bind,Sem.run_pure,Result.andThen,invoke,real];have hz:(#[Value.iface t (real ρ x)]++(an ρ args).toArray:Array Value)[0]?=some (Value.iface t (real ρ x)):=by simp
  simp only[hz,callMethod];have tA:=sys.Kn t name f hm (real ρ x) w;have hx:(#[Value.iface t (real ρ x)]++(an ρ args).toArray:Array Value).extract 1 (#[Value.iface t (real ρ x)]++(an ρ args).toArray:Array Value).size=(an ρ args).toArray:=by
   apply Array.ext';simp
  rw[hx,Sem.run_bind,run_program];simp only[Result.andThen];rw[Sem.run_bind,tA];simp only[Result.andThen,tZ]
  congr 2
  simp[an]
 rw[hrun];simp only[AV.aV] at e1;exact zg hc hi (by simp only[bh];exact⟨e1.2,e2.2⟩) hk
theorem Al{fs:Nat→Option aq}{ms:Nat→String→Option Nat}(sys:lS P fs ms){name:String}{t f:Nat}{x:AV}{args:List AV}{v:AV}(hm:ms t name=some f)
  (hc:m9 P H0 f (x::args) h v h1)(tZ:∀(args:Array Value) (w:World),(callFunc f args).run P w=.ok (.enter f args) w):mY P H0 (.invoke name) (.iface t x::args) h v h1:=by
 intro o rs EK ρ D w a N env ro n hi he hv next Q hk
 obtain⟨c,r,ho,hcb,Dp⟩:=uy EK;obtain⟨q,rs',rfl,h1,h2⟩:=dF Dp;simp only[List.map_cons,List.cons.injEq] at hv;have e1:=aD he h1;have e2:=gW he h2;rw[hv.1] at e1;rw[hv.2] at e2;refine gH EK ?_;have hrun:(execOp a.eval o).run P w=.ok (.enter f (an ρ (x::args)).toArray) w:=by
  unfold execOp;rw[ho];simp only[resolve,hcb];rw[e1.1,eB rfl e2.1];simp only[Sem.run_bind,Sem.run_pure,Result.andThen,invoke,real];have hz:(#[Value.iface t (real ρ x)]++(an ρ args).toArray:Array Value)[0]?=some (Value.iface t (real ρ x)):=by simp
  simp only[hz,callMethod];have tA:=sys.Kn t name f hm (real ρ x) w;have hx:(#[Value.iface t (real ρ x)]++(an ρ args).toArray:Array Value).extract 1 (#[Value.iface t (real ρ x)]++(an ρ args).toArray:Array Value).size=(an ρ args).toArray:=by
   apply Array.ext';simp
  rw[hx,Sem.run_bind,run_program];simp only[Result.andThen];rw[Sem.run_bind,tA];simp only[Result.andThen,tZ]
  congr 2
  simp[an]
 rw[hrun];simp only[AV.aV] at e1;exact xo hc hi (by simp only[bh];exact⟨e1.2,e2.2⟩) hk
theorem BQ(hi:Inv P H0 ρ D h w)(o:Obj):Inv P H0 ρ D h (w.alloc o)∧Ext ρ D h w ρ h (w.alloc o):=by
 have hold:∀r,r<w.heap.size→(w.alloc o).heap[r]?=w.heap[r]?:=by
  intro r hr;show(w.heap.push o)[r]?=_;rw[Array.getElem?_push,if_neg (by omega)]
 constructor
 ·refine⟨hi.lt,hi.top,?_,fun b x hd hx=>?_,hi.apart⟩
  ·have:=hi.low;show H0≤(w.heap.push o).size;simp;omega
  ·have hb:=hi.bJ b x hd hx;exact bO hb (fun _=>id) (fun _ _=>rfl) (hold _ (gP hb))
 ·refine⟨Nat.le_refl _,fun _ _=>rfl,?_,fun r hr _=>hold r hr,fun _ _ _=>rfl,fun _ _ hb=>⟨hb,id⟩,fun _ g1 g2=>by omega,rfl,rfl,rfl⟩;show w.heap.size≤(w.heap.push o).size;simp
theorem run_getLoop{l:Nat}{r:Loop}(hl:w.heap[l]?=some (.loop r)):(Instr.getLoop l).run P w=.ok r w:=by
 have BB:(getObj l).run P w=.ok (.loop r) w:=by
  unfold getObj;simp only[Sem.run,hl]
 simp[Instr.getLoop,Sem.run_bind,BB,Result.andThen]
theorem oF{l:Nat}{o o':Obj}(hl:w.heap[l]?=some o)(hnc:∀c t f,o≠.cells c t f):(setObj l o').run P w=.ok () (setRow w l o'):=by
 unfold setObj;cases o<;>first|(exact absurd rfl (hnc _ _ _))|(simp only[Sem.run,hl];rfl)
theorem sQ(hi:Inv P H0 ρ D h w){L:Nat}{st st':Nat}{cE kX:Option AX}{ps:List Nat}{x y:AC}{r r':Loop}(hd:D L)(hg:h.get L=some (.loop st cE e ps x y))
  (hr:w.heap[(ρ L).bJ]?=some (.loop r))(hr':B1 P ρ D st' kX e ps x y r'):
  Inv P H0 ρ D (h.set L (.loop st' kX e ps x y)) (setRow w (ρ L).bJ (.loop r'))∧Ext ρ D h w ρ (h.set L (.loop st' kX e ps x y)) (setRow w (ρ L).bJ (.loop r')):=by
 have hlt:=(Array.getElem?_eq_some_iff.1 hr).1;have hb:=hi.bJ L _ hd hg;refine qa hi hd (by simp[Heap.wr,hg]) rfl (setRow_size _ _ _) (fun q hq=>by rw[dG,if_neg hq]) rfl rfl rfl ⟨hb.1,r',?_,hr'⟩;rw[dG,if_pos rfl,if_pos hlt]
theorem pY:∀{ps:List Nat} {args:List AV} {e:Env} {tmps:Array Value} {N:Nat},ps.length=args.length→oW N ps=true→tmps.size=N→(∀i,tmps.getD i Go.undef=real ρ (e.get i))→(∀i,(e.get i).aV D)→bh D args→
  bI ρ D N (fU ps args e) {tmps:=(ps.zip (an ρ args)).foldl (fun tmps p=>tmps.setIfInBounds p.1 p.2) tmps,defers:=[]}
 |[],[],e,tmps,N,_,_,hs,hg,hd,_=>⟨hs,hg,hd⟩
 |[],_::_,_,_,_,hl,_,_,_,_,_=>by simp at hl
 |_::_,[],_,_,_,hl,_,_,_,_,_=>by simp at hl
 |p::ps,v::args,e,tmps,N,hl,hb,hs,hg,hd,ha=>by
  simp only[oW,Bool.and_eq_true] at hb;simp only[bh] at ha;have hput:=bI.put (d:=some p) (v:=v) (a:=⟨tmps,[]⟩) (e:=e) (N:=N) ⟨hs,hg,hd⟩ hb.1 ha.1;simp only[fU,an,List.zip_cons_cons,List.foldl_cons];exact pY (by simpa using hl) hb.2 hput.size hput.get hput.dom ha.2
theorem Ho{L:Nat}{args:List AV}{cE cr pX:Option AX}{ps:List Nat}{x y:AC}{e2 e4:Env}{h4:Heap}{ax:AX}{K1:Nat}
  (hg:h.get L=some (.loop 0 cE e ps x y))(hlen:args.length=ps.length)(BJ:bD P H0 true x (fU ps args e) h .normal e2 h2)(By:h2.get L=some (.loop 0 cr e ps x y))
  (EO:bD P H0 true y e2 (h2.set L (.loop 1 cr e ps x y)) ax e4 h4)(hnp:∀v,ax≠.panic v)(Tf:h4.get L=some (.loop K1 pX e ps x y)):
  sw P H0 (.yield L) args h (.bool ax.bG) (h4.set L (.loop (bif ax.bG then 0 else 2) (dB ax) e ps x y)):=by
 intro ρ D w hi hf hd o a ro n next Q hk
 simp only[AV.aV] at hf;obtain⟨_,r,hr,hst,hpd,htm,vY,hps,hca,hcb,Ri,Rj,QO⟩:=hi.bJ L _ hf hg;have hsz:args.length=r.params.size:=by rw[hlen,←hps];simp
 have hrun:((do let d ←Deferred.ofValue (real ρ (.yield L)) (an ρ args).toArray;invoke d.target d.args:Sem Next).run P w)=
   .ok (.round (ρ L).bJ r.fn ((ps.zip (an ρ args)).foldl (fun tmps p=>tmps.setIfInBounds p.1 p.2) r.tmps) r.assign r.body) w:=by
  simp only[real,Deferred.ofValue,Sem.run_bind,Sem.run_pure,Result.andThen,invoke,Instr.yield,run_getLoop hr];rw[if_neg (by simp[aN,hsz])];simp only[Sem.run_pure]
  congr 2
  rw[←hps];rw[←Array.foldl_toList];simp
 rw[hrun];refine⟨fun hh=>by simp[FW,Fence.wide] at hh,?_⟩;refine roundIn_of_wpIn trivial ?_;have QZ:=pY (ρ:=ρ) (D:=D) (ps:=ps) (args:=args) (e:=e) (tmps:=r.tmps) hlen.symm QO rfl htm vY hd;have hm0:jC [] w.heap.size ρ D h w ([]:List Deferred):=⟨[],rfl,List.nodup_nil,fun r hr=>by simp at hr⟩;refine Code.wpIn_mono ?_ (BJ r.assign hca r.tmps.size Ri (some (ρ L).bJ) rfl ρ D w _ w.heap.size (n-1) [] hi QZ hm0 (Nat.le_refl _));rintro ex a1 w1 ⟨qi,hex,i1,x1,Gm,m1,_⟩;have hex:ex=.normal:=hex;subst hex;have HB:grow D h.next h2.next L:=.inl hf;have uW:=x1.bA L hf;obtain⟨_,r1,AJ,JN,Rm,Rv,Q1,Rn,QT,QW,Ju,Jw,Jg⟩:=i1.bJ L _ HB By;have yN:=sQ i1 HB By AJ (st':=1) (kX:=cr) (r':={r1 with state:=.busy}) ⟨rfl,Rm,Rv,Q1,Rn,QT,QW,Ju,Jw,Jg⟩;refine⟨setRow w1 (qi L).bJ (.loop {r1 with state:=.busy}),?_,?_⟩
 ·have JO:r1.state=.ready:=JN;rw[←uW];simp only[Instr.beginRound,Sem.run_bind,run_getLoop AJ,Result.andThen,oF AJ (fun _ _ _=>by simp),JO,Sem.run_pure]
 ·have hm1:=m1.ext i1.lt yN.2;rw[show(h2.set L (.loop 1 cr e ps x y)).next=h2.next from rfl,bn] at hm1;have hi1:=yN.1;refine Code.wpIn_mono ?_ (EO r.body hcb r.tmps.size Rj (some (ρ L).bJ) rfl qi _ _ a1 w.heap.size (n-1) [] hi1 Gm hm1 (by rw[setRow_size];exact x1.size));rintro ex a2 w2 ⟨jd,hex,i2,x2,Pc,m2,_⟩;have QN:grow (grow D h.next h2.next) (h2.set L (.loop 1 cr e ps x y)).next h4.next L:=.inl HB
  have Zx:=x2.bA L HB;obtain⟨_,r2,AK,U3,JC,Rx,Q2,Ro,QU,QX,Jv,Jx,Jh⟩:=i2.bJ L _ QN Tf;have z7:(jd L).bJ=(ρ L).bJ:=by rw[Zx,uW]
  have fin:∀(jump:Option Code),(match dB ax with
    |none=>jump=none
    |some (.exit id)=>jump=some (.exit id)
    |some .ret=>jump=some .ret
    |_=>False)→jump.isNone=ax.bG→∃v w',(Instr.endRound (ρ L).bJ jump).run P w2=.ok v w'∧next (a.put o.dst v) w':=by
   intro jump hj hjn;have BK:=sQ i2 QN Tf AK (st':=bif ax.bG then 0 else 2) (kX:=dB ax) (r':={r2 with state:=if jump.isNone then .ready else .done,pending:=jump})
    ⟨by rw[hjn];cases ax.bG<;>rfl,hj,Rx,Q2,Ro,QU,QX,Jv,Jx,Jh⟩
   refine⟨_,setRow w2 (jd L).bJ (.loop {r2 with state:=if jump.isNone then .ready else .done,pending:=jump}),?_,hk jd _ ?_ ?_ (by simp[AV.aV])⟩
   ·rw[←z7];simp only[Instr.endRound,Sem.run_bind,run_getLoop AK,Result.andThen,oF AK (fun _ _ _=>by simp),Sem.run_pure,hjn];rfl
   ·have:=BK.1;have g1:=x1.next;have g2:=x2.next;rw[show(h2.set L (.loop 1 cr e ps x y)).next=h2.next from rfl] at g2 this;rw[dN D g1 g2] at this;exact this
   ·have xb:Ext qi (grow D h.next h2.next) h2 w1 jd h4 w2:=Ext.trans i1.lt yN.2 (by
     rw[show(h2.set L (.loop 1 cr e ps x y)).next=h2.next from rfl,bn];exact x2)
    have xc:=Ext.trans i1.lt xb BK.2;exact Ext.trans hi.lt x1 xc
  cases ax with
  |normal=>
   have hex:ex=.normal:=hex;subst hex;exact fin none rfl rfl
  |ret=>
   have hex:ex=.ret:=hex;subst hex;exact fin (some .ret) rfl rfl
  |exit id=>
   have hex:ex=.exit id:=hex;subst hex;exact fin (some (.exit id)) rfl rfl
  |panic v=>exact absurd rfl (hnp v)
end
end Ads
end Go.Proofs.YtnlcabhfkpafmaaGreat
