/-
  What big steps mean in the model: calls of values and of methods; ranges over functions.
-/
import Derived.Test.YtmnolnoeibhjgaaGreatAdsCall
import Derived.RangeFuncCalls
set_option linter.unusedSimpArgs false
set_option linter.unusedVariables false
namespace Go.Proofs.YtmnolnoeibhjgaaGreat
namespace Ads
section
variable {P:Program} {H0 W0:Nat} {ρ ρ':cG} {D D':Dom} {h h' h1 h2:Heap} {w w':World} {N n:Nat} {env e e':Env} {a:Act} {ro:Option Nat} {rd:Bool}
theorem ve{f:Nat}{args:Array Value}{R:Ending→World→Prop}(hc:CallsIn Fence.wide n P f args w R):CallsIn (FW ro) n P f args w R:=by
 cases ro with
 |none=>exact hc
 |some l=>exact CallsIn.inRound l hc
theorem yI{o:Oper}{f:Nat}{args:List AV}{v:AV}{next:Act→World→Prop}{Q:Exit→Act→World→Prop}(hc:fR P H0 f args h v h1)(hi:Inv P H0 ρ D h w)(hd:bl D args)
  (hk:∀ρ' w',Inv P H0 ρ' (grow D h.next h1.next) h1 w'→Ext ρ D h w ρ' h1 w'→v.aW (grow D h.next h1.next)→next (a.put o.dst (real ρ' v)) w'):
  o.uponIn (FW ro) n P a next Q (.ok (.enter f (aq ρ args).toArray) w):=by
 refine⟨fun hh=>by simp[FW,Fence.wide] at hh,?_⟩;refine CallsIn.mono (ve (hc ρ D w (n-1) hi hd)) ?_;rintro e w' ⟨ρ',rfl,g1,g2,g3⟩;exact hk ρ' w' g1 g2 g3
theorem Cg{f:Nat}{first aO args:List AV}{v:AV}(hc:fR P H0 f (first++(args++aO)) h v h1)(tv:∀(args:Array Value) (w:World),(callFunc f args).run P w=.ok (.enter f args) w):
  rM P H0 (.func (.func f) first aO) args h v h1:=by
 intro ρ D w hi hf hd o a ro n next Q hk
 simp only[AV.aW] at hf;have hrun:((do let d ←Deferred.ofValue (real ρ (.func (.func f) first aO)) (aq ρ args).toArray;invoke d.target d.args:Sem Next).run P w)=.ok (.enter f (aq ρ (first++(args++aO))).toArray) w:=by
  simp only[real,Deferred.ofValue,Sem.run_bind,Sem.run_pure,Result.andThen,invoke,tv]
  congr 2
  simp[ig]
 rw[hrun];have hda:bl D (first++(args++aO)):=by
  rw[aN];intro x hx;rcases List.mem_append.1 hx with hx|hx
  ·exact(aN D _).1 hf.2.1 x hx
  ·rcases List.mem_append.1 hx with hx|hx
   ·exact(aN D _).1 hd x hx
   ·exact(aN D _).1 hf.2.2 x hx
 exact yI hc hi hda hk
theorem wM{o:Oper}{f:Nat}{args:List AV}{v:AV}{next:Act→World→Prop}{Q:Exit→Act→World→Prop}(hc:mG P H0 f args h v h1)(hi:Inv P H0 ρ D h w)(hd:bl D args)
  (hk:∀ρ' w',Inv P H0 ρ' (grow D h.next h1.next) h1 w'→Ext ρ D h w ρ' h1 w'→v.aW (grow D h.next h1.next)→Q (.panic [{v:=real ρ' v,recovered:=false}]) a w'):
  o.uponIn (FW ro) n P a next Q (.ok (.enter f (aq ρ args).toArray) w):=by
 refine⟨fun hh=>by simp[FW,Fence.wide] at hh,?_⟩;refine CallsIn.mono (ve (hc ρ D w (n-1) hi hd)) ?_;rintro e w' ⟨ρ',rfl,g1,g2,g3⟩;exact hk ρ' w' g1 g2 g3
theorem Aw{f:Nat}{first aO args:List AV}{v:AV}(hc:mG P H0 f (first++(args++aO)) h v h1)(tv:∀(args:Array Value) (w:World),(callFunc f args).run P w=.ok (.enter f args) w):
  pP P H0 (.func (.func f) first aO) args h v h1:=by
 intro ρ D w hi hf hd o a ro n next Q hk
 simp only[AV.aW] at hf;have hrun:((do let d ←Deferred.ofValue (real ρ (.func (.func f) first aO)) (aq ρ args).toArray;invoke d.target d.args:Sem Next).run P w)=.ok (.enter f (aq ρ (first++(args++aO))).toArray) w:=by
  simp only[real,Deferred.ofValue,Sem.run_bind,Sem.run_pure,Result.andThen,invoke,tv]
  congr 2
  simp[ig]
 rw[hrun];have hda:bl D (first++(args++aO)):=by
  rw[aN];intro x hx;rcases List.mem_append.1 hx with hx|hx
  ·exact(aN D _).1 hf.2.1 x hx
  ·rcases List.mem_append.1 hx with hx|hx
   ·exact(aN D _).1 hd x hx
   ·exact(aN D _).1 hf.2.2 x hx
 exact wM hc hi hda hk
theorem xN{o:Op}{rs:List bx}(h:aD P o=some (.call,rs)):∃c f,o=.call c∧c.callee=.value f∧ck (f::c.args.toList)=some rs:=by
 cases o<;>simp only[aD] at h
 case call c=>
  split at h
  ·rename_i f hcb;simp only[Option.map_eq_some_iff,Prod.mk.injEq] at h;obtain⟨rs',h1,_,rfl⟩:=h;exact⟨c,f,rfl,hcb,h1⟩
  ·simp only[Option.map_eq_some_iff] at h;obtain⟨_,_,h⟩:=h;simp at h
  ·exfalso;repeat' (first
    |(simp only[Option.bind_eq_some_iff] at h;obtain⟨_,_,h⟩:=h)
    |(obtain⟨_,_,h2⟩:=bh h;simp at h2;done)
    |(simp at h;done)
    |(split at h))
 case unOp u t x=>
  exfalso;cases u<;>simp only[aD] at h<;>first
   |(obtain⟨_,_,h2⟩:=bh h;simp at h2;done)
   |(simp at h;done)
 case next it s=>
  exfalso;cases s with
  |true=>simp[aD] at h
  |false=>simp only[aD] at h;obtain⟨hq,_⟩:=aS h;simp at hq
 case makeMap t r=>
  exfalso;cases r with
  |none=>simp only[aD] at h;obtain⟨hq,_⟩:=aS h;simp at hq
  |some r=>simp[aD] at h
 all_goals exfalso
 all_goals repeat' (first
  |(simp only[Option.bind_eq_some_iff] at h;obtain⟨_,_,h⟩:=h)
  |(simp only[Option.map_eq_some_iff] at h;obtain⟨_,_,h⟩:=h;simp at h;done)
  |(obtain⟨_,_,h2⟩:=bh h;simp at h2;done)
  |(simp at h;done)
  |(split at h))
theorem tR{o:Op}{rs:List bx}{name:String}(h:aD P o=some (.invoke name,rs)):∃c r,o=.call c∧c.callee=.invoke r name∧ck (r::c.args.toList)=some rs:=by
 cases o<;>simp only[aD] at h
 case call c=>
  split at h
  ·simp only[Option.map_eq_some_iff] at h;obtain⟨_,_,h⟩:=h;simp at h
  ·rename_i r nm hcb;simp only[Option.map_eq_some_iff,Prod.mk.injEq,fG.invoke.injEq] at h;obtain⟨rs',h1,rfl,rfl⟩:=h;exact⟨c,r,rfl,hcb,h1⟩
  ·exfalso;repeat' (first
    |(simp only[Option.bind_eq_some_iff] at h;obtain⟨_,_,h⟩:=h)
    |(obtain⟨_,_,h2⟩:=bh h;simp at h2;done)
    |(simp at h;done)
    |(split at h))
 case unOp u t x=>
  exfalso;cases u<;>simp only[aD] at h<;>first
   |(obtain⟨_,_,h2⟩:=bh h;simp at h2;done)
   |(simp at h;done)
 case next it s=>
  exfalso;cases s with
  |true=>simp[aD] at h
  |false=>simp only[aD] at h;obtain⟨hq,_⟩:=aS h;simp at hq
 case makeMap t r=>
  exfalso;cases r with
  |none=>simp only[aD] at h;obtain⟨hq,_⟩:=aS h;simp at hq
  |some r=>simp[aD] at h
 all_goals exfalso
 all_goals repeat' (first
  |(simp only[Option.bind_eq_some_iff] at h;obtain⟨_,_,h⟩:=h)
  |(simp only[Option.map_eq_some_iff] at h;obtain⟨_,_,h⟩:=h;simp at h;done)
  |(obtain⟨_,_,h2⟩:=bh h;simp at h2;done)
  |(simp at h;done)
  |(split at h))
theorem E9{fv:AV}{args:List AV}{v:AV}(hc:rM P H0 fv args h v h1):ux P H0 .call (fv::args) h v h1:=by
 intro o rs DD ρ D w a N env ro n hi he hv next Q hk
 obtain⟨c,f,ho,hcb,CF⟩:=xN DD;obtain⟨r,rs',rfl,h1,h2⟩:=dw CF;simp only[List.map_cons,List.cons.injEq] at hv;have e1:=aG he h1;have e2:=gH he h2;rw[hv.1] at e1;rw[hv.2] at e2;refine gj DD ?_;have hex:execOp a.eval o=(do let d ←Deferred.ofValue (real ρ fv) (aq ρ args).toArray;invoke d.target d.args:Sem Next):=by
  unfold execOp;rw[ho];simp only[resolve,hcb];rw[e1.1,dZ rfl e2.1]
 rw[hex];exact hc ρ D w hi e1.2 e2.2 o a ro n next Q hk
theorem CS{fv:AV}{args:List AV}{v:AV}(hc:pP P H0 fv args h v h1):mo P H0 .call (fv::args) h v h1:=by
 intro o rs DD ρ D w a N env ro n hi he hv next Q hk
 obtain⟨c,f,ho,hcb,CF⟩:=xN DD;obtain⟨r,rs',rfl,h1,h2⟩:=dw CF;simp only[List.map_cons,List.cons.injEq] at hv;have e1:=aG he h1;have e2:=gH he h2;rw[hv.1] at e1;rw[hv.2] at e2;refine gj DD ?_;have hex:execOp a.eval o=(do let d ←Deferred.ofValue (real ρ fv) (aq ρ args).toArray;invoke d.target d.args:Sem Next):=by
  unfold execOp;rw[ho];simp only[resolve,hcb];rw[e1.1,dZ rfl e2.1]
 rw[hex];exact hc ρ D w hi e1.2 e2.2 o a ro n next Q hk
theorem Cj{o:Op}{rs:List bx}(h:aD P o=some (.panic,rs)):∃x r,o=.panic x∧dr x=some r∧rs=[r]:=by
 cases o<;>simp only[aD] at h
 case panic x=>
  obtain⟨_,h2⟩:=aS h;obtain⟨r,rs',rfl,h3,h4⟩:=dw h2;simp[ck] at h4;subst h4;exact⟨x,r,rfl,h3,rfl⟩
 case unOp u t x=>
  exfalso;cases u<;>simp only[aD] at h<;>first
   |(obtain⟨_,_,h2⟩:=bh h;simp at h2;done)
   |(simp at h;done)
 case next it s=>
  exfalso;cases s with
  |true=>simp[aD] at h
  |false=>simp only[aD] at h;obtain⟨hq,_⟩:=aS h;simp at hq
 case makeMap t r=>
  exfalso;cases r with
  |none=>simp only[aD] at h;obtain⟨hq,_⟩:=aS h;simp at hq
  |some r=>simp[aD] at h
 all_goals exfalso
 all_goals repeat' (first
  |(simp only[Option.bind_eq_some_iff] at h;obtain⟨_,_,h⟩:=h)
  |(simp only[Option.map_eq_some_iff] at h;obtain⟨_,_,h⟩:=h;simp at h;done)
  |(obtain⟨_,_,h2⟩:=bh h;simp at h2;done)
  |(simp at h;done)
  |(split at h))
theorem CT{t:Nat}{x:AV}:mo P H0 .panic [.iface t x] h (.iface t x) h:=by
 intro o rs DD ρ D w a N env ro n hi he hv next Q hk
 obtain⟨y,r,ho,hr,rfl⟩:=Cj DD;simp only[List.map_cons,List.map_nil,List.cons.injEq,and_true] at hv;have e1:=aG he hr;rw[hv] at e1;refine gj DD ?_;have hex:(execOp a.eval o).run P w=.halt (.panic (real ρ (.iface t x))) w:=by
  unfold execOp;rw[ho];simp only[e1.1,real];simp[Instr.panic,Sem.run_bind,Result.andThen]
 rw[hex];exact hk ρ w (by rw[bn];exact hi) (Ext.refl _ _ _ _) (by rw[bn];exact e1.2)
theorem Bj{fs:Nat→Option aj}{ms:Nat→String→Option Nat}(sys:kW P fs ms){name:String}{t f:Nat}{x:AV}{args:List AV}{v:AV}(hm:ms t name=some f)
  (hc:fR P H0 f (x::args) h v h1)(tv:∀(args:Array Value) (w:World),(callFunc f args).run P w=.ok (.enter f args) w):ux P H0 (.invoke name) (.iface t x::args) h v h1:=by
 intro o rs DD ρ D w a N env ro n hi he hv next Q hk
 obtain⟨c,r,ho,hcb,CF⟩:=tR DD;obtain⟨q,rs',rfl,h1,h2⟩:=dw CF;simp only[List.map_cons,List.cons.injEq] at hv;have e1:=aG he h1;have e2:=gH he h2;rw[hv.1] at e1;rw[hv.2] at e2;refine gj DD ?_;have hrun:(execOp a.eval o).run P w=.ok (.enter f (aq ρ (x::args)).toArray) w:=by
  unfold execOp;rw[ho];simp only[resolve,hcb];rw[e1.1,dZ rfl e2.1];simp only[Sem.run_bind,Sem.run_pure,Result.andThen,invoke,real];have hz:(#[Value.iface t (real ρ x)]++(aq ρ args).toArray:Array Value)[0]?=some (Value.iface t (real ρ x)):=by simp
  simp only[hz,callMethod];have sW:=sys.HI t name f hm (real ρ x) w;have hx:(#[Value.iface t (real ρ x)]++(aq ρ args).toArray:Array Value).extract 1 (#[Value.iface t (real ρ x)]++(aq ρ args).toArray:Array Value).size=(aq ρ args).toArray:=by
   apply Array.ext';simp
  rw[hx,Sem.run_bind,run_program];simp only[Result.andThen];rw[Sem.run_bind,sW];simp only[Result.andThen,tv]
  congr 2
  simp[aq]
 rw[hrun];simp only[AV.aW] at e1;exact yI hc hi (by simp only[bl];exact⟨e1.2,e2.2⟩) hk
theorem zx{fs:Nat→Option aj}{ms:Nat→String→Option Nat}(sys:kW P fs ms){name:String}{t f:Nat}{x:AV}{args:List AV}{v:AV}(hm:ms t name=some f)
  (hc:mG P H0 f (x::args) h v h1)(tv:∀(args:Array Value) (w:World),(callFunc f args).run P w=.ok (.enter f args) w):mo P H0 (.invoke name) (.iface t x::args) h v h1:=by
 intro o rs DD ρ D w a N env ro n hi he hv next Q hk
 obtain⟨c,r,ho,hcb,CF⟩:=tR DD;obtain⟨q,rs',rfl,h1,h2⟩:=dw CF;simp only[List.map_cons,List.cons.injEq] at hv;have e1:=aG he h1;have e2:=gH he h2;rw[hv.1] at e1;rw[hv.2] at e2;refine gj DD ?_;have hrun:(execOp a.eval o).run P w=.ok (.enter f (aq ρ (x::args)).toArray) w:=by
  unfold execOp;rw[ho];simp only[resolve,hcb];rw[e1.1,dZ rfl e2.1];simp only[Sem.run_bind,Sem.run_pure,Result.andThen,invoke,real];have hz:(#[Value.iface t (real ρ x)]++(aq ρ args).toArray:Array Value)[0]?=some (Value.iface t (real ρ x)):=by simp
  simp only[hz,callMethod];have sW:=sys.HI t name f hm (real ρ x) w;have hx:(#[Value.iface t (real ρ x)]++(aq ρ args).toArray:Array Value).extract 1 (#[Value.iface t (real ρ x)]++(aq ρ args).toArray:Array Value).size=(aq ρ args).toArray:=by
   apply Array.ext';simp
  rw[hx,Sem.run_bind,run_program];simp only[Result.andThen];rw[Sem.run_bind,sW];simp only[Result.andThen,tv]
  congr 2
  simp[aq]
 rw[hrun];simp only[AV.aW] at e1;exact wM hc hi (by simp only[bl];exact⟨e1.2,e2.2⟩) hk
theorem Be(hi:Inv P H0 ρ D h w)(o:Obj):Inv P H0 ρ D h (w.alloc o)∧Ext ρ D h w ρ h (w.alloc o):=by
 have hold:∀r,r<w.heap.size→(w.alloc o).heap[r]?=w.heap[r]?:=by
  intro r hr;show(w.heap.push o)[r]?=_;rw[Array.getElem?_push,if_neg (by omega)]
 constructor
 ·refine⟨hi.lt,hi.top,?_,fun b x hd hx=>?_,hi.apart⟩
  ·have:=hi.low;show H0≤(w.heap.push o).size;simp;omega
  ·have hb:=hi.bH b x hd hx;exact bR hb (fun _=>id) (fun _ _=>rfl) (hold _ (gy hb))
 ·refine⟨Nat.le_refl _,fun _ _=>rfl,?_,fun r hr _=>hold r hr,fun _ _ _=>rfl,fun _ _ hb=>⟨hb,id⟩,fun _ g1 g2=>by omega,rfl,rfl,rfl⟩;show w.heap.size≤(w.heap.push o).size;simp
theorem run_getLoop{l:Nat}{r:Loop}(hl:w.heap[l]?=some (.loop r)):(Instr.getLoop l).run P w=.ok r w:=by
 have AZ:(getObj l).run P w=.ok (.loop r) w:=by
  unfold getObj;simp only[Sem.run,hl]
 simp[Instr.getLoop,Sem.run_bind,AZ,Result.andThen]
theorem nT{l:Nat}{o o':Obj}(hl:w.heap[l]?=some o)(hnc:∀c t f,o≠.cells c t f):(setObj l o').run P w=.ok () (setRow w l o'):=by
 unfold setObj;cases o<;>first|(exact absurd rfl (hnc _ _ _))|(simp only[Sem.run,hl];rfl)
theorem sw(hi:Inv P H0 ρ D h w){L:Nat}{st st':Nat}{cw ku:Option AX}{ps:List Nat}{x y:AC}{r r':Loop}(hd:D L)(hg:h.get L=some (.loop st cw e ps x y))
  (hr:w.heap[(ρ L).bH]?=some (.loop r))(hr':Bf P ρ D st' ku e ps x y r'):
  Inv P H0 ρ D (h.set L (.loop st' ku e ps x y)) (setRow w (ρ L).bH (.loop r'))∧Ext ρ D h w ρ (h.set L (.loop st' ku e ps x y)) (setRow w (ρ L).bH (.loop r')):=by
 have hlt:=(Array.getElem?_eq_some_iff.1 hr).1;have hb:=hi.bH L _ hd hg;refine pH hi hd (by simp[Heap.wr,hg]) rfl (setRow_size _ _ _) (fun q hq=>by rw[dy,if_neg hq]) rfl rfl rfl ⟨hb.1,r',?_,hr'⟩;rw[dy,if_pos rfl,if_pos hlt]
theorem pg:∀{ps:List Nat} {args:List AV} {e:Env} {tmps:Array Value} {N:Nat},ps.length=args.length→oJ N ps=true→tmps.size=N→(∀i,tmps.getD i Go.undef=real ρ (e.get i))→(∀i,(e.get i).aW D)→bl D args→
  bG ρ D N (eW ps args e) {tmps:=(ps.zip (aq ρ args)).foldl (fun tmps p=>tmps.setIfInBounds p.1 p.2) tmps,defers:=[]}
 |[],[],e,tmps,N,_,_,hs,hg,hd,_=>⟨hs,hg,hd⟩
 |[],_::_,_,_,_,hl,_,_,_,_,_=>by simp at hl
 |_::_,[],_,_,_,hl,_,_,_,_,_=>by simp at hl
 |p::ps,v::args,e,tmps,N,hl,hb,hs,hg,hd,ha=>by
  simp only[oJ,Bool.and_eq_true] at hb;simp only[bl] at ha;have hput:=bG.put (d:=some p) (v:=v) (a:=⟨tmps,[]⟩) (e:=e) (N:=N) ⟨hs,hg,hd⟩ hb.1 ha.1;simp only[eW,aq,List.zip_cons_cons,List.foldl_cons];exact pg (by simpa using hl) hb.2 hput.size hput.get hput.dom ha.2
theorem Fm{L:Nat}{args:List AV}{cw bW mc:Option AX}{ps:List Nat}{x y:AC}{e2 e4:Env}{h4:Heap}{ax:AX}{Ee:Nat}
  (hg:h.get L=some (.loop 0 cw e ps x y))(hlen:args.length=ps.length)(uH:bD P H0 true x (eW ps args e) h .normal e2 h2)(zj:h2.get L=some (.loop 0 bW e ps x y))
  (wS:bD P H0 true y e2 (h2.set L (.loop 1 bW e ps x y)) ax e4 h4)(hnp:∀v,ax≠.panic v)(I0:h4.get L=some (.loop Ee mc e ps x y)):
  rM P H0 (.yield L) args h (.bool ax.bB) (h4.set L (.loop (bif ax.bB then 0 else 2) (cU ax) e ps x y)):=by
 intro ρ D w hi hf hd o a ro n next Q hk
 simp only[AV.aW] at hf;obtain⟨_,r,hr,hst,hpd,Yk,vz,hps,hca,hcb,OD,OE,Oa⟩:=hi.bH L _ hf hg;have hsz:args.length=r.params.size:=by rw[hlen,←hps];simp
 have hrun:((do let d ←Deferred.ofValue (real ρ (.yield L)) (aq ρ args).toArray;invoke d.target d.args:Sem Next).run P w)=
   .ok (.round (ρ L).bH r.fn ((ps.zip (aq ρ args)).foldl (fun tmps p=>tmps.setIfInBounds p.1 p.2) r.tmps) r.assign r.body) w:=by
  simp only[real,Deferred.ofValue,Sem.run_bind,Sem.run_pure,Result.andThen,invoke,Instr.yield,run_getLoop hr];rw[if_neg (by simp[aM,hsz])];simp only[Sem.run_pure]
  congr 2
  rw[←hps];rw[←Array.foldl_toList];simp
 rw[hrun];refine⟨fun hh=>by simp[FW,Fence.wide] at hh,?_⟩;refine roundIn_of_wpIn trivial ?_;have Ol:=pg (ρ:=ρ) (D:=D) (ps:=ps) (args:=args) (e:=e) (tmps:=r.tmps) hlen.symm Oa rfl Yk vz hd;have hm0:jc [] w.heap.size ρ D h w ([]:List Deferred):=⟨[],rfl,List.nodup_nil,fun r hr=>by simp at hr⟩;refine Code.wpIn_mono ?_ (uH r.assign hca r.tmps.size OD (some (ρ L).bH) rfl ρ D w _ w.heap.size (n-1) [] hi Ol hm0 (Nat.le_refl _));rintro ex a1 w1 ⟨pO,hex,i1,x1,EK,m1,_⟩;have hex:ex=.normal:=hex;subst hex;have FC:grow D h.next h2.next L:=.inl hf;have uA:=x1.bA L hf;obtain⟨_,r1,rK,OO,OF,OR,On,OH,Od,Og,G7,G9,GQ⟩:=i1.bH L _ FC zj;have x9:=sw i1 FC zj rK (st':=1) (ku:=bW) (r':={r1 with state:=.busy}) ⟨rfl,OF,OR,On,OH,Od,Og,G7,G9,GQ⟩;refine⟨setRow w1 (pO L).bH (.loop {r1 with state:=.busy}),?_,?_⟩
 ·have Hr:r1.state=.ready:=OO;rw[←uA];simp only[Instr.beginRound,Sem.run_bind,run_getLoop rK,Result.andThen,nT rK (fun _ _ _=>by simp),Hr,Sem.run_pure]
 ·have ZC:=m1.ext i1.lt x9.2;rw[show(h2.set L (.loop 1 bW e ps x y)).next=h2.next from rfl,bn] at ZC;have hi1:=x9.1;refine Code.wpIn_mono ?_ (wS r.body hcb r.tmps.size OE (some (ρ L).bH) rfl pO _ _ a1 w.heap.size (n-1) [] hi1 EK ZC (by rw[setRow_size];exact x1.size));rintro ex a2 w2 ⟨iQ,hex,i2,x2,KT,m2,_⟩;have N7:grow (grow D h.next h2.next) (h2.set L (.loop 1 bW e ps x y)).next h4.next L:=.inl FC
  have Xs:=x2.bA L FC;obtain⟨_,r2,kN,R9,Hh,OS,Oo,OI,Oe,Oh,G8,He,GS⟩:=i2.bH L _ N7 I0;have zg:(iQ L).bH=(ρ L).bH:=by rw[Xs,uA]
  have fin:∀(jump:Option Code),(match cU ax with
    |none=>jump=none
    |some (.exit id)=>jump=some (.exit id)
    |some .ret=>jump=some .ret
    |_=>False)→jump.isNone=ax.bB→∃v w',(Instr.endRound (ρ L).bH jump).run P w2=.ok v w'∧next (a.put o.dst v) w':=by
   intro jump hj hjn;have A6:=sw i2 N7 I0 kN (st':=bif ax.bB then 0 else 2) (ku:=cU ax) (r':={r2 with state:=if jump.isNone then .ready else .done,pending:=jump})
    ⟨by rw[hjn];cases ax.bB<;>rfl,hj,OS,Oo,OI,Oe,Oh,G8,He,GS⟩
   refine⟨_,setRow w2 (iQ L).bH (.loop {r2 with state:=if jump.isNone then .ready else .done,pending:=jump}),?_,hk iQ _ ?_ ?_ (by simp[AV.aW])⟩
   ·rw[←zg];simp only[Instr.endRound,Sem.run_bind,run_getLoop kN,Result.andThen,nT kN (fun _ _ _=>by simp),Sem.run_pure,hjn];rfl
   ·have:=A6.1;have g1:=x1.next;have g2:=x2.next;rw[show(h2.set L (.loop 1 bW e ps x y)).next=h2.next from rfl] at g2 this;rw[dH D g1 g2] at this;exact this
   ·have xb:Ext pO (grow D h.next h2.next) h2 w1 iQ h4 w2:=Ext.trans i1.lt x9.2 (by
     rw[show(h2.set L (.loop 1 bW e ps x y)).next=h2.next from rfl,bn];exact x2)
    have xc:=Ext.trans i1.lt xb A6.2;exact Ext.trans hi.lt x1 xc
  cases ax with
  |normal=>
   have hex:ex=.normal:=hex;subst hex;exact fin none rfl rfl
  |ret=>
   have hex:ex=.ret:=hex;subst hex;exact fin (some .ret) rfl rfl
  |exit id=>
   have hex:ex=.exit id:=hex;subst hex;exact fin (some (.exit id)) rfl rfl
  |panic v=>exact absurd rfl (hnp v)
end
end Ads
end Go.Proofs.YtmnolnoeibhjgaaGreat
