/-
  What big steps mean in the model: calls of values and of methods; ranges over functions.
-/
import Derived.Test.YtepdklcpagielaaAdsCall
import Derived.RangeFuncCalls
set_option linter.unusedSimpArgs false
set_option linter.unusedVariables false
namespace Go.Proofs.Ytepdklcpagielaa
namespace Ads
section
variable {P:Program} {H0 W0:Nat} {ρ ρ':de} {D D':Dom} {h h' h1 h2:Heap} {w w':World} {N n:Nat} {env e e':Env} {a:Act} {ro:Option Nat} {rd:Bool}
theorem yy{f:Nat}{args:Array Value}{R:Ending→World→Prop}(hc:CallsIn Fence.wide n P f args w R):CallsIn (FW ro) n P f args w R:=by
 cases ro with
 |none=>exact hc
 |some l=>exact CallsIn.inRound l hc
theorem B4{o:Oper}{f:Nat}{args:List AV}{v:AV}{next:Act→World→Prop}{Q:Exit→Act→World→Prop}(hc:iy P H0 f args h v h1)(hi:Inv P H0 ρ D h w)(hd:bE D args)
  (hk:∀ρ' w',Inv P H0 ρ' (grow D h.next h1.next) h1 w'→Ext ρ D h w ρ' h1 w'→v.bq (grow D h.next h1.next)→next (a.put o.dst (real ρ' v)) w'):
  o.uponIn (FW ro) n P a next Q (.ok (.enter f (aA ρ args).toArray) w):=by
 refine⟨fun hh=>by simp[FW,Fence.wide] at hh,?_⟩;refine CallsIn.mono (yy (hc ρ D w (n-1) hi hd)) ?_;rintro e w' ⟨ρ',rfl,g1,g2,g3⟩;exact hk ρ' w' g1 g2 g3
theorem Ft{f:Nat}{first aN args:List AV}{v:AV}(hc:iy P H0 f (first++(args++aN)) h v h1)(wu:∀(args:Array Value) (w:World),(callFunc f args).run P w=.ok (.enter f args) w):
  uM P H0 (.func (.func f) first aN) args h v h1:=by
 intro ρ D w hi hf hd o a ro n next Q hk
 simp only[AV.bq] at hf;have hrun:((do let d ←Deferred.ofValue (real ρ (.func (.func f) first aN)) (aA ρ args).toArray;invoke d.target d.args:Sem Next).run P w)=.ok (.enter f (aA ρ (first++(args++aN))).toArray) w:=by
  simp only[real,Deferred.ofValue,Sem.run_bind,Sem.run_pure,Result.andThen,invoke,wu]
  congr 2
  simp[jg]
 rw[hrun];have hda:bE D (first++(args++aN)):=by
  rw[aV];intro x hx;rcases List.mem_append.1 hx with hx|hx
  ·exact(aV D _).1 hf.2.1 x hx
  ·rcases List.mem_append.1 hx with hx|hx
   ·exact(aV D _).1 hd x hx
   ·exact(aV D _).1 hf.2.2 x hx
 exact B4 hc hi hda hk
theorem z5{o:Oper}{f:Nat}{args:List AV}{v:AV}{next:Act→World→Prop}{Q:Exit→Act→World→Prop}(hc:oV P H0 f args h v h1)(hi:Inv P H0 ρ D h w)(hd:bE D args)
  (hk:∀ρ' w',Inv P H0 ρ' (grow D h.next h1.next) h1 w'→Ext ρ D h w ρ' h1 w'→v.bq (grow D h.next h1.next)→Q (.panic [{v:=real ρ' v,recovered:=false}]) a w'):
  o.uponIn (FW ro) n P a next Q (.ok (.enter f (aA ρ args).toArray) w):=by
 refine⟨fun hh=>by simp[FW,Fence.wide] at hh,?_⟩;refine CallsIn.mono (yy (hc ρ D w (n-1) hi hd)) ?_;rintro e w' ⟨ρ',rfl,g1,g2,g3⟩;exact hk ρ' w' g1 g2 g3
theorem DC{f:Nat}{first aN args:List AV}{v:AV}(hc:oV P H0 f (first++(args++aN)) h v h1)(wu:∀(args:Array Value) (w:World),(callFunc f args).run P w=.ok (.enter f args) w):
  sG P H0 (.func (.func f) first aN) args h v h1:=by
 intro ρ D w hi hf hd o a ro n next Q hk
 simp only[AV.bq] at hf;have hrun:((do let d ←Deferred.ofValue (real ρ (.func (.func f) first aN)) (aA ρ args).toArray;invoke d.target d.args:Sem Next).run P w)=.ok (.enter f (aA ρ (first++(args++aN))).toArray) w:=by
  simp only[real,Deferred.ofValue,Sem.run_bind,Sem.run_pure,Result.andThen,invoke,wu]
  congr 2
  simp[jg]
 rw[hrun];have hda:bE D (first++(args++aN)):=by
  rw[aV];intro x hx;rcases List.mem_append.1 hx with hx|hx
  ·exact(aV D _).1 hf.2.1 x hx
  ·rcases List.mem_append.1 hx with hx|hx
   ·exact(aV D _).1 hd x hx
   ·exact(aV D _).1 hf.2.2 x hx
 exact z5 hc hi hda hk
theorem Bd{o:Op}{rs:List bV}(h:aH P o=some (.call,rs)):∃c f,o=.call c∧c.callee=.value f∧cO (f::c.args.toList)=some rs:=by
 cases o<;>simp only[aH] at h
 case call c=>
  split at h
  ·rename_i f hcb;simp only[Option.map_eq_some_iff,Prod.mk.injEq] at h;obtain⟨rs',h1,_,rfl⟩:=h;exact⟨c,f,rfl,hcb,h1⟩
  ·simp only[Option.map_eq_some_iff] at h;obtain⟨_,_,h⟩:=h;simp at h
  ·exfalso;repeat' (first
    |(simp only[Option.bind_eq_some_iff] at h;obtain⟨_,_,h⟩:=h)
    |(obtain⟨_,_,h2⟩:=bD h;simp at h2;done)
    |(simp at h;done)
    |(split at h))
 case unOp u t x=>
  exfalso;cases u<;>simp only[aH] at h<;>first
   |(obtain⟨_,_,h2⟩:=bD h;simp at h2;done)
   |(simp at h;done)
 case next it s=>
  exfalso;cases s with
  |true=>simp[aH] at h
  |false=>simp only[aH] at h;obtain⟨hq,_⟩:=aZ h;simp at hq
 case makeMap t r=>
  exfalso;cases r with
  |none=>simp only[aH] at h;obtain⟨hq,_⟩:=aZ h;simp at hq
  |some r=>simp[aH] at h
 all_goals exfalso
 all_goals repeat' (first
  |(simp only[Option.bind_eq_some_iff] at h;obtain⟨_,_,h⟩:=h)
  |(simp only[Option.map_eq_some_iff] at h;obtain⟨_,_,h⟩:=h;simp at h;done)
  |(obtain⟨_,_,h2⟩:=bD h;simp at h2;done)
  |(simp at h;done)
  |(split at h))
theorem w8{o:Op}{rs:List bV}{name:String}(h:aH P o=some (.invoke name,rs)):∃c r,o=.call c∧c.callee=.invoke r name∧cO (r::c.args.toList)=some rs:=by
 cases o<;>simp only[aH] at h
 case call c=>
  split at h
  ·simp only[Option.map_eq_some_iff] at h;obtain⟨_,_,h⟩:=h;simp at h
  ·rename_i r nm hcb;simp only[Option.map_eq_some_iff,Prod.mk.injEq,gP.invoke.injEq] at h;obtain⟨rs',h1,rfl,rfl⟩:=h;exact⟨c,r,rfl,hcb,h1⟩
  ·exfalso;repeat' (first
    |(simp only[Option.bind_eq_some_iff] at h;obtain⟨_,_,h⟩:=h)
    |(obtain⟨_,_,h2⟩:=bD h;simp at h2;done)
    |(simp at h;done)
    |(split at h))
 case unOp u t x=>
  exfalso;cases u<;>simp only[aH] at h<;>first
   |(obtain⟨_,_,h2⟩:=bD h;simp at h2;done)
   |(simp at h;done)
 case next it s=>
  exfalso;cases s with
  |true=>simp[aH] at h
  |false=>simp only[aH] at h;obtain⟨hq,_⟩:=aZ h;simp at hq
 case makeMap t r=>
  exfalso;cases r with
  |none=>simp only[aH] at h;obtain⟨hq,_⟩:=aZ h;simp at hq
  |some r=>simp[aH] at h
 all_goals exfalso
 all_goals repeat' (first
  |(simp only[Option.bind_eq_some_iff] at h;obtain⟨_,_,h⟩:=h)
  |(simp only[Option.map_eq_some_iff] at h;obtain⟨_,_,h⟩:=h;simp at h;done)
  |(obtain⟨_,_,h2⟩:=bD h;simp at h2;done)
  |(simp at h;done)
  |(split at h))
theorem Jh{fv:AV}{args:List AV}{v:AV}(hc:uM P H0 fv args h v h1):xJ P H0 .call (fv::args) h v h1:=by
 intro o rs Hs ρ D w a N env ro n hi he hv next Q hk
 obtain⟨c,f,ho,hcb,xO⟩:=Bd Hs;obtain⟨r,rs',rfl,h1,h2⟩:=ee xO;simp only[List.map_cons,List.cons.injEq] at hv;have e1:=aM he h1;have e2:=iU he h2;rw[hv.1] at e1;rw[hv.2] at e2;refine iF Hs ?_;have hex:execOp a.eval o=(do let d ←Deferred.ofValue (real ρ fv) (aA ρ args).toArray;invoke d.target d.args:Sem Next):=by
  unfold execOp;rw[ho];simp only[resolve,hcb];rw[e1.1,eZ rfl e2.1]
 rw[hex];exact hc ρ D w hi e1.2 e2.2 o a ro n next Q hk
theorem Gl{fv:AV}{args:List AV}{v:AV}(hc:sG P H0 fv args h v h1):oJ P H0 .call (fv::args) h v h1:=by
 intro o rs Hs ρ D w a N env ro n hi he hv next Q hk
 obtain⟨c,f,ho,hcb,xO⟩:=Bd Hs;obtain⟨r,rs',rfl,h1,h2⟩:=ee xO;simp only[List.map_cons,List.cons.injEq] at hv;have e1:=aM he h1;have e2:=iU he h2;rw[hv.1] at e1;rw[hv.2] at e2;refine iF Hs ?_;have hex:execOp a.eval o=(do let d ←Deferred.ofValue (real ρ fv) (aA ρ args).toArray;invoke d.target d.args:Sem Next):=by
  unfold execOp;rw[ho];simp only[resolve,hcb];rw[e1.1,eZ rfl e2.1]
 rw[hex];exact hc ρ D w hi e1.2 e2.2 o a ro n next Q hk
theorem Fw{o:Op}{rs:List bV}(h:aH P o=some (.panic,rs)):∃x r,o=.panic x∧ec x=some r∧rs=[r]:=by
 cases o<;>simp only[aH] at h
 case panic x=>
  obtain⟨_,h2⟩:=aZ h;obtain⟨r,rs',rfl,h3,h4⟩:=ee h2;simp[cO] at h4;subst h4;exact⟨x,r,rfl,h3,rfl⟩
 case unOp u t x=>
  exfalso;cases u<;>simp only[aH] at h<;>first
   |(obtain⟨_,_,h2⟩:=bD h;simp at h2;done)
   |(simp at h;done)
 case next it s=>
  exfalso;cases s with
  |true=>simp[aH] at h
  |false=>simp only[aH] at h;obtain⟨hq,_⟩:=aZ h;simp at hq
 case makeMap t r=>
  exfalso;cases r with
  |none=>simp only[aH] at h;obtain⟨hq,_⟩:=aZ h;simp at hq
  |some r=>simp[aH] at h
 all_goals exfalso
 all_goals repeat' (first
  |(simp only[Option.bind_eq_some_iff] at h;obtain⟨_,_,h⟩:=h)
  |(simp only[Option.map_eq_some_iff] at h;obtain⟨_,_,h⟩:=h;simp at h;done)
  |(obtain⟨_,_,h2⟩:=bD h;simp at h2;done)
  |(simp at h;done)
  |(split at h))
theorem Gm{t:Nat}{x:AV}:oJ P H0 .panic [.iface t x] h (.iface t x) h:=by
 intro o rs Hs ρ D w a N env ro n hi he hv next Q hk
 obtain⟨y,r,ho,hr,rfl⟩:=Fw Hs;simp only[List.map_cons,List.map_nil,List.cons.injEq,and_true] at hv;have e1:=aM he hr;rw[hv] at e1;refine iF Hs ?_;have hex:(execOp a.eval o).run P w=.halt (.panic (real ρ (.iface t x))) w:=by
  unfold execOp;rw[ho];simp only[e1.1,real];simp[Instr.panic,Sem.run_bind,Result.andThen]
 rw[hex];exact hk ρ w (by rw[bF];exact hi) (Ext.refl _ _ _ _) (by rw[bF];exact e1.2)
theorem Es{fs:Nat→Option aB}{ms:Nat→String→Option Nat}(sys:lW P fs ms){name:String}{t f:Nat}{x:AV}{args:List AV}{v:AV}(hm:ms t name=some f)
  (hc:iy P H0 f (x::args) h v h1)(wu:∀(args:Array Value) (w:World),(callFunc f args).run P w=.ok (.enter f args) w):xJ P H0 (.invoke name) (.iface t x::args) h v h1:=by
 intro o rs Hs ρ D w a N env ro n hi he hv next Q hk
 obtain⟨c,r,ho,hcb,xO⟩:=w8 Hs;obtain⟨q,rs',rfl,h1,h2⟩:=ee xO;simp only[List.map_cons,List.cons.injEq] at hv;have e1:=aM he h1;have e2:=iU he h2;rw[hv.1] at e1;rw[hv.2] at e2;refine iF Hs ?_;have hrun:(execOp a.eval o).run P w=.ok (.enter f (aA ρ (x::args)).toArray) w:=by
  unfold execOp;rw[ho];simp only[resolve,hcb];rw[e1.1,eZ rfl e2.1];simp only[Sem.run_bind,Sem.run_pure,Result.andThen,invoke,real];have hz:(#[Value.iface t (real ρ x)]++(aA ρ args).toArray:Array Value)[0]?=some (Value.iface t (real ρ x)):=by simp
  simp only[hz,callMethod];have vM:=sys.Gg t name f hm (real ρ x) w;have hx:(#[Value.iface t (real ρ x)]++(aA ρ args).toArray:Array Value).extract 1 (#[Value.iface t (real ρ x)]++(aA ρ args).toArray:Array Value).size=(aA ρ args).toArray:=by
   apply Array.ext';simp
  rw[hx,Sem.run_bind,run_program];simp only[Result.andThen];rw[Sem.run_bind,vM];simp only[Result.andThen,wu]
  congr 2
  simp[aA]
 rw[hrun];simp only[AV.bq] at e1;exact B4 hc hi (by simp only[bE];exact⟨e1.2,e2.2⟩) hk
theorem CK{fs:Nat→Option aB}{ms:Nat→String→Option Nat}(sys:lW P fs ms){name:String}{t f:Nat}{x:AV}{args:List AV}{v:AV}(hm:ms t name=some f)
  (hc:oV P H0 f (x::args) h v h1)(wu:∀(args:Array Value) (w:World),(callFunc f args).run P w=.ok (.enter f args) w):oJ P H0 (.invoke name) (.iface t x::args) h v h1:=by
 intro o rs Hs ρ D w a N env ro n hi he hv next Q hk
 obtain⟨c,r,ho,hcb,xO⟩:=w8 Hs;obtain⟨q,rs',rfl,h1,h2⟩:=ee xO;simp only[List.map_cons,List.cons.injEq] at hv;have e1:=aM he h1;have e2:=iU he h2;rw[hv.1] at e1;rw[hv.2] at e2;refine iF Hs ?_;have hrun:(execOp a.eval o).run P w=.ok (.enter f (aA ρ (x::args)).toArray) w:=by
  unfold execOp;rw[ho];simp only[resolve,hcb];rw[e1.1,eZ rfl e2.1];simp only[Sem.run_bind,Sem.run_pure,Result.andThen,invoke,real];have hz:(#[Value.iface t (real ρ x)]++(aA ρ args).toArray:Array Value)[0]?=some (Value.iface t (real ρ x)):=by simp
  simp only[hz,callMethod];have vM:=sys.Gg t name f hm (real ρ x) w;have hx:(#[Value.iface t (real ρ x)]++(aA ρ args).toArray:Array Value).extract 1 (#[Value.iface t (real ρ x)]++(aA ρ args).toArray:Array Value).size=(aA ρ args).toArray:=by
   apply Array.ext';simp
  rw[hx,Sem.run_bind,run_program];simp only[Result.andThen];rw[Sem.run_bind,vM];simp only[Result.andThen,wu]
  congr 2
  simp[aA]
 rw[hrun];simp only[AV.bq] at e1;exact z5 hc hi (by simp only[bE];exact⟨e1.2,e2.2⟩) hk
theorem Eh(hi:Inv P H0 ρ D h w)(o:Obj):Inv P H0 ρ D h (w.alloc o)∧Ext ρ D h w ρ h (w.alloc o):=by
 have hold:∀r,r<w.heap.size→(w.alloc o).heap[r]?=w.heap[r]?:=by
  intro r hr;show(w.heap.push o)[r]?=_;rw[Array.getElem?_push,if_neg (by omega)]
 constructor
 ·refine⟨hi.lt,hi.top,?_,fun b x hd hx=>?_,hi.apart⟩
  ·have:=hi.low;show H0≤(w.heap.push o).size;simp;omega
  ·have hb:=hi.cj b x hd hx;exact cA hb (fun _=>id) (fun _ _=>rfl) (hold _ (iM hb))
 ·refine⟨Nat.le_refl _,fun _ _=>rfl,?_,fun r hr _=>hold r hr,fun _ _ _=>rfl,fun _ _ hb=>⟨hb,id⟩,fun _ g1 g2=>by omega,rfl,rfl,rfl⟩;show w.heap.size≤(w.heap.push o).size;simp
theorem run_getLoop{l:Nat}{r:Loop}(hl:w.heap[l]?=some (.loop r)):(Instr.getLoop l).run P w=.ok r w:=by
 have oN:(getObj l).run P w=.ok (.loop r) w:=by
  unfold getObj;simp only[Sem.run,hl]
 simp[Instr.getLoop,Sem.run_bind,oN,Result.andThen]
theorem qw{l:Nat}{o o':Obj}(hl:w.heap[l]?=some o)(hnc:∀c t f,o≠.cells c t f):(setObj l o').run P w=.ok () (setRow w l o'):=by
 unfold setObj;cases o<;>first|(exact absurd rfl (hnc _ _ _))|(simp only[Sem.run,hl];rfl)
theorem vl(hi:Inv P H0 ρ D h w){L:Nat}{st st':Nat}{cF mT:Option AX}{ps:List Nat}{x y:AC}{r r':Loop}(hd:D L)(hg:h.get L=some (.loop st cF e ps x y))
  (hr:w.heap[(ρ L).cj]?=some (.loop r))(hr':Em P ρ D st' mT e ps x y r'):
  Inv P H0 ρ D (h.set L (.loop st' mT e ps x y)) (setRow w (ρ L).cj (.loop r'))∧Ext ρ D h w ρ (h.set L (.loop st' mT e ps x y)) (setRow w (ρ L).cj (.loop r')):=by
 have hlt:=(Array.getElem?_eq_some_iff.1 hr).1;have hb:=hi.cj L _ hd hg;refine sr hi hd (by simp[Heap.wr,hg]) rfl (setRow_size _ _ _) (fun q hq=>by rw[ef,if_neg hq]) rfl rfl rfl ⟨hb.1,r',?_,hr'⟩;rw[ef,if_pos rfl,if_pos hlt]
theorem rW:∀{ps:List Nat} {args:List AV} {e:Env} {tmps:Array Value} {N:Nat},ps.length=args.length→qY N ps=true→tmps.size=N→(∀i,tmps.getD i Go.undef=real ρ (e.get i))→(∀i,(e.get i).bq D)→bE D args→
  cg ρ D N (gL ps args e) {tmps:=(ps.zip (aA ρ args)).foldl (fun tmps p=>tmps.setIfInBounds p.1 p.2) tmps,defers:=[]}
 |[],[],e,tmps,N,_,_,hs,hg,hd,_=>⟨hs,hg,hd⟩
 |[],_::_,_,_,_,hl,_,_,_,_,_=>by simp at hl
 |_::_,[],_,_,_,hl,_,_,_,_,_=>by simp at hl
 |p::ps,v::args,e,tmps,N,hl,hb,hs,hg,hd,ha=>by
  simp only[qY,Bool.and_eq_true] at hb;simp only[bE] at ha;have hput:=cg.put (d:=some p) (v:=v) (a:=⟨tmps,[]⟩) (e:=e) (N:=N) ⟨hs,hg,hd⟩ hb.1 ha.1;simp only[gL,aA,List.zip_cons_cons,List.foldl_cons];exact rW (by simpa using hl) hb.2 hput.size hput.get hput.dom ha.2
theorem JE{L:Nat}{args:List AV}{cF cU rU:Option AX}{ps:List Nat}{x y:AC}{e2 e4:Env}{h4:Heap}{ax:AX}{MX:Nat}
  (hg:h.get L=some (.loop 0 cF e ps x y))(hlen:args.length=ps.length)(Dg:bW P H0 true x (gL ps args e) h .normal e2 h2)(Az:h2.get L=some (.loop 0 cU e ps x y))
  (Nx:bW P H0 true y e2 (h2.set L (.loop 1 cU e ps x y)) ax e4 h4)(hnp:∀v,ax≠.panic v)(Us:h4.get L=some (.loop MX rU e ps x y)):
  uM P H0 (.yield L) args h (.bool ax.bZ) (h4.set L (.loop (bif ax.bZ then 0 else 2) (eJ ax) e ps x y)):=by
 intro ρ D w hi hf hd o a ro n next Q hk
 simp only[AV.bq] at hf;obtain⟨_,r,hr,hst,hpd,Wm,yR,hps,hca,hcb,SD,SE,Si⟩:=hi.cj L _ hf hg;have hsz:args.length=r.params.size:=by rw[hlen,←hps];simp
 have hrun:((do let d ←Deferred.ofValue (real ρ (.yield L)) (aA ρ args).toArray;invoke d.target d.args:Sem Next).run P w)=
   .ok (.round (ρ L).cj r.fn ((ps.zip (aA ρ args)).foldl (fun tmps p=>tmps.setIfInBounds p.1 p.2) r.tmps) r.assign r.body) w:=by
  simp only[real,Deferred.ofValue,Sem.run_bind,Sem.run_pure,Result.andThen,invoke,Instr.yield,run_getLoop hr];rw[if_neg (by simp[aU,hsz])];simp only[Sem.run_pure]
  congr 2
  rw[←hps];rw[←Array.foldl_toList];simp
 rw[hrun];refine⟨fun hh=>by simp[FW,Fence.wide] at hh,?_⟩;refine roundIn_of_wpIn trivial ?_;have Lk:=rW (ρ:=ρ) (D:=D) (ps:=ps) (args:=args) (e:=e) (tmps:=r.tmps) hlen.symm Si rfl Wm yR hd;have hm0:kB [] w.heap.size ρ D h w ([]:List Deferred):=⟨[],rfl,List.nodup_nil,fun r hr=>by simp at hr⟩;refine Code.wpIn_mono ?_ (Dg r.assign hca r.tmps.size SD (some (ρ L).cj) rfl ρ D w _ w.heap.size (n-1) [] hi Lk hm0 (Nat.le_refl _));rintro ex a1 w1 ⟨sF,hex,i1,x1,IN,m1,_⟩;have hex:ex=.normal:=hex;subst hex;have Nr:grow D h.next h2.next L:=.inl hf;have xN:=x1.bS L hf;obtain⟨_,r1,xX,SK,SF,SP,Ss,SH,Sl,So,Lr,Lt,Lf⟩:=i1.cj L _ Nr Az;have BA:=vl i1 Nr Az xX (st':=1) (mT:=cU) (r':={r1 with state:=.busy}) ⟨rfl,SF,SP,Ss,SH,Sl,So,Lr,Lt,Lf⟩;refine⟨setRow w1 (sF L).cj (.loop {r1 with state:=.busy}),?_,?_⟩
 ·have LG:r1.state=.ready:=SK;rw[←xN];simp only[Instr.beginRound,Sem.run_bind,run_getLoop xX,Result.andThen,qw xX (fun _ _ _=>by simp),LG,Sem.run_pure]
 ·have Uu:=m1.ext i1.lt BA.2;rw[show(h2.set L (.loop 1 cU e ps x y)).next=h2.next from rfl,bF] at Uu;have hi1:=BA.1;refine Code.wpIn_mono ?_ (Nx r.body hcb r.tmps.size SE (some (ρ L).cj) rfl sF _ _ a1 w.heap.size (n-1) [] hi1 IN Uu (by rw[setRow_size];exact x1.size));rintro ex a2 w2 ⟨j4,hex,i2,x2,QI,m2,_⟩;have Sf:grow (grow D h.next h2.next) (h2.set L (.loop 1 cU e ps x y)).next h4.next L:=.inl Nr
  have aa6:=x2.bS L Nr;obtain⟨_,r2,Aj,Wk,Ly,SQ,St,SI,Sm,Sq,Ls,Lu,Lg⟩:=i2.cj L _ Sf Us;have Cu:(j4 L).cj=(ρ L).cj:=by rw[aa6,xN]
  have fin:∀(jump:Option Code),(match eJ ax with
    |none=>jump=none
    |some (.exit id)=>jump=some (.exit id)
    |some .ret=>jump=some .ret
    |_=>False)→jump.isNone=ax.bZ→∃v w',(Instr.endRound (ρ L).cj jump).run P w2=.ok v w'∧next (a.put o.dst v) w':=by
   intro jump hj hjn;have Eb:=vl i2 Sf Us Aj (st':=bif ax.bZ then 0 else 2) (mT:=eJ ax) (r':={r2 with state:=if jump.isNone then .ready else .done,pending:=jump})
    ⟨by rw[hjn];cases ax.bZ<;>rfl,hj,SQ,St,SI,Sm,Sq,Ls,Lu,Lg⟩
   refine⟨_,setRow w2 (j4 L).cj (.loop {r2 with state:=if jump.isNone then .ready else .done,pending:=jump}),?_,hk j4 _ ?_ ?_ (by simp[AV.bq])⟩
   ·rw[←Cu];simp only[Instr.endRound,Sem.run_bind,run_getLoop Aj,Result.andThen,qw Aj (fun _ _ _=>by simp),Sem.run_pure,hjn];rfl
   ·have:=Eb.1;have g1:=x1.next;have g2:=x2.next;rw[show(h2.set L (.loop 1 cU e ps x y)).next=h2.next from rfl] at g2 this;rw[eD D g1 g2] at this;exact this
   ·have xb:Ext sF (grow D h.next h2.next) h2 w1 j4 h4 w2:=Ext.trans i1.lt BA.2 (by
     rw[show(h2.set L (.loop 1 cU e ps x y)).next=h2.next from rfl,bF];exact x2)
    have xc:=Ext.trans i1.lt xb Eb.2;exact Ext.trans hi.lt x1 xc
  cases ax with
  |normal=>
   have hex:ex=.normal:=hex;subst hex;exact fin none rfl rfl
  |ret=>
   have hex:ex=.ret:=hex;subst hex;exact fin (some .ret) rfl rfl
  |exit id=>
   have hex:ex=.exit id:=hex;subst hex;exact fin (some (.exit id)) rfl rfl
  |panic v=>exact absurd rfl (hnp v)
end
end Ads
end Go.Proofs.Ytepdklcpagielaa
