/-
  What big steps mean in the model: calls of values and of methods; ranges over functions.
-/
import Derived.Test.YtnlcabhfkpafmaaGreatAdsCall
import Derived.RangeFuncCalls
set_option linter.unusedSimpArgs false
set_option linter.unusedVariables false
namespace Go.Proofs.YtnlcabhfkpafmaaGreat
namespace Ads
section
variable {P:Program} {H0 W0:Nat} {ρ ρ':cE} {D D':Dom} {h h' h1 h2:Heap} {w w':World} {N n:Nat} {env e e':Env} {a:Act} {ro:Option Nat} {rd:Bool}
theorem vw{f:Nat}{args:Array Value}{R:Ending→World→Prop}(hc:CallsIn Fence.wide n P f args w R):CallsIn (FW ro) n P f args w R:=by
 cases ro with
 |none=>exact hc
 |some l=>exact CallsIn.inRound l hc
theorem y3{o:Oper}{f:Nat}{args:List AV}{v:AV}{next:Act→World→Prop}{Q:Exit→Act→World→Prop}(hc:ga P H0 f args h v h1)(hi:Inv P H0 ρ D h w)(hd:bl D args)
  (hk:∀ρ' w',Inv P H0 ρ' (grow D h.next h1.next) h1 w'→Ext ρ D h w ρ' h1 w'→v.aX (grow D h.next h1.next)→next (a.put o.dst (real ρ' v)) w'):
  o.uponIn (FW ro) n P a next Q (.ok (.enter f (aq ρ args).toArray) w):=by
 refine⟨fun hh=>by simp[FW,Fence.wide] at hh,?_⟩;refine CallsIn.mono (vw (hc ρ D w (n-1) hi hd)) ?_;rintro e w' ⟨ρ',rfl,g1,g2,g3⟩;exact hk ρ' w' g1 g2 g3
theorem Cx{f:Nat}{first aL args:List AV}{v:AV}(hc:ga P H0 f (first++(args++aL)) h v h1)(tG:∀(args:Array Value) (w:World),(callFunc f args).run P w=.ok (.enter f args) w):
  rT P H0 (.func (.func f) first aL) args h v h1:=by
 intro ρ D w hi hf hd o a ro n next Q hk
 simp only[AV.aX] at hf;have hrun:((do let d ←Deferred.ofValue (real ρ (.func (.func f) first aL)) (aq ρ args).toArray;invoke d.target d.args:Sem Next).run P w)=.ok (.enter f (aq ρ (first++(args++aL))).toArray) w:=by
  simp only[real,Deferred.ofValue,Sem.run_bind,Sem.run_pure,Result.andThen,invoke,tG]
  congr 2
  simp[ir]
 rw[hrun];have hda:bl D (first++(args++aL)):=by
  rw[aR];intro x hx;rcases List.mem_append.1 hx with hx|hx
  ·exact(aR D _).1 hf.2.1 x hx
  ·rcases List.mem_append.1 hx with hx|hx
   ·exact(aR D _).1 hd x hx
   ·exact(aR D _).1 hf.2.2 x hx
 exact y3 hc hi hda hk
theorem wZ{o:Oper}{f:Nat}{args:List AV}{v:AV}{next:Act→World→Prop}{Q:Exit→Act→World→Prop}(hc:mO P H0 f args h v h1)(hi:Inv P H0 ρ D h w)(hd:bl D args)
  (hk:∀ρ' w',Inv P H0 ρ' (grow D h.next h1.next) h1 w'→Ext ρ D h w ρ' h1 w'→v.aX (grow D h.next h1.next)→Q (.panic [{v:=real ρ' v,recovered:=false}]) a w'):
  o.uponIn (FW ro) n P a next Q (.ok (.enter f (aq ρ args).toArray) w):=by
 refine⟨fun hh=>by simp[FW,Fence.wide] at hh,?_⟩;refine CallsIn.mono (vw (hc ρ D w (n-1) hi hd)) ?_;rintro e w' ⟨ρ',rfl,g1,g2,g3⟩;exact hk ρ' w' g1 g2 g3
theorem AR{f:Nat}{first aL args:List AV}{v:AV}(hc:mO P H0 f (first++(args++aL)) h v h1)(tG:∀(args:Array Value) (w:World),(callFunc f args).run P w=.ok (.enter f args) w):
  pO P H0 (.func (.func f) first aL) args h v h1:=by
 intro ρ D w hi hf hd o a ro n next Q hk
 simp only[AV.aX] at hf;have hrun:((do let d ←Deferred.ofValue (real ρ (.func (.func f) first aL)) (aq ρ args).toArray;invoke d.target d.args:Sem Next).run P w)=.ok (.enter f (aq ρ (first++(args++aL))).toArray) w:=by
  simp only[real,Deferred.ofValue,Sem.run_bind,Sem.run_pure,Result.andThen,invoke,tG]
  congr 2
  simp[ir]
 rw[hrun];have hda:bl D (first++(args++aL)):=by
  rw[aR];intro x hx;rcases List.mem_append.1 hx with hx|hx
  ·exact(aR D _).1 hf.2.1 x hx
  ·rcases List.mem_append.1 hx with hx|hx
   ·exact(aR D _).1 hd x hx
   ·exact(aR D _).1 hf.2.2 x hx
 exact wZ hc hi hda hk
theorem yb{o:Op}{rs:List bG}(h:aC P o=some (.call,rs)):∃c f,o=.call c∧c.callee=.value f∧cm (f::c.args.toList)=some rs:=by
 cases o<;>simp only[aC] at h
 case call c=>
  split at h
  ·rename_i f hcb;simp only[Option.map_eq_some_iff,Prod.mk.injEq] at h;obtain⟨rs',h1,_,rfl⟩:=h;exact⟨c,f,rfl,hcb,h1⟩
  ·simp only[Option.map_eq_some_iff] at h;obtain⟨_,_,h⟩:=h;simp at h
  ·exfalso;repeat' (first
    |(simp only[Option.bind_eq_some_iff] at h;obtain⟨_,_,h⟩:=h)
    |(obtain⟨_,_,h2⟩:=bh h;simp at h2;done)
    |(simp at h;done)
    |(split at h))
 case unOp u t x=>
  exfalso;cases u<;>simp only[aC] at h<;>first
   |(obtain⟨_,_,h2⟩:=bh h;simp at h2;done)
   |(simp at h;done)
 case next it s=>
  exfalso;cases s with
  |true=>simp[aC] at h
  |false=>simp only[aC] at h;obtain⟨hq,_⟩:=aT h;simp at hq
 case makeMap t r=>
  exfalso;cases r with
  |none=>simp only[aC] at h;obtain⟨hq,_⟩:=aT h;simp at hq
  |some r=>simp[aC] at h
 all_goals exfalso
 all_goals repeat' (first
  |(simp only[Option.bind_eq_some_iff] at h;obtain⟨_,_,h⟩:=h)
  |(simp only[Option.map_eq_some_iff] at h;obtain⟨_,_,h⟩:=h;simp at h;done)
  |(obtain⟨_,_,h2⟩:=bh h;simp at h2;done)
  |(simp at h;done)
  |(split at h))
theorem ua{o:Op}{rs:List bG}{name:String}(h:aC P o=some (.invoke name,rs)):∃c r,o=.call c∧c.callee=.invoke r name∧cm (r::c.args.toList)=some rs:=by
 cases o<;>simp only[aC] at h
 case call c=>
  split at h
  ·simp only[Option.map_eq_some_iff] at h;obtain⟨_,_,h⟩:=h;simp at h
  ·rename_i r nm hcb;simp only[Option.map_eq_some_iff,Prod.mk.injEq,fH.invoke.injEq] at h;obtain⟨rs',h1,rfl,rfl⟩:=h;exact⟨c,r,rfl,hcb,h1⟩
  ·exfalso;repeat' (first
    |(simp only[Option.bind_eq_some_iff] at h;obtain⟨_,_,h⟩:=h)
    |(obtain⟨_,_,h2⟩:=bh h;simp at h2;done)
    |(simp at h;done)
    |(split at h))
 case unOp u t x=>
  exfalso;cases u<;>simp only[aC] at h<;>first
   |(obtain⟨_,_,h2⟩:=bh h;simp at h2;done)
   |(simp at h;done)
 case next it s=>
  exfalso;cases s with
  |true=>simp[aC] at h
  |false=>simp only[aC] at h;obtain⟨hq,_⟩:=aT h;simp at hq
 case makeMap t r=>
  exfalso;cases r with
  |none=>simp only[aC] at h;obtain⟨hq,_⟩:=aT h;simp at hq
  |some r=>simp[aC] at h
 all_goals exfalso
 all_goals repeat' (first
  |(simp only[Option.bind_eq_some_iff] at h;obtain⟨_,_,h⟩:=h)
  |(simp only[Option.map_eq_some_iff] at h;obtain⟨_,_,h⟩:=h;simp at h;done)
  |(obtain⟨_,_,h2⟩:=bh h;simp at h2;done)
  |(simp at h;done)
  |(split at h))
theorem Gh{fv:AV}{args:List AV}{v:AV}(hc:rT P H0 fv args h v h1):uF P H0 .call (fv::args) h v h1:=by
 intro o rs Ea ρ D w a N env ro n hi he hv next Q hk
 obtain⟨c,f,ho,hcb,FV⟩:=yb Ea;obtain⟨r,rs',rfl,h1,h2⟩:=dh FV;simp only[List.map_cons,List.cons.injEq] at hv;have e1:=aF he h1;have e2:=gS he h2;rw[hv.1] at e1;rw[hv.2] at e2;refine gw Ea ?_;have hex:execOp a.eval o=(do let d ←Deferred.ofValue (real ρ fv) (aq ρ args).toArray;invoke d.target d.args:Sem Next):=by
  unfold execOp;rw[ho];simp only[resolve,hcb];rw[e1.1,ef rfl e2.1]
 rw[hex];exact hc ρ D w hi e1.2 e2.2 o a ro n next Q hk
theorem Dl{fv:AV}{args:List AV}{v:AV}(hc:pO P H0 fv args h v h1):mD P H0 .call (fv::args) h v h1:=by
 intro o rs Ea ρ D w a N env ro n hi he hv next Q hk
 obtain⟨c,f,ho,hcb,FV⟩:=yb Ea;obtain⟨r,rs',rfl,h1,h2⟩:=dh FV;simp only[List.map_cons,List.cons.injEq] at hv;have e1:=aF he h1;have e2:=gS he h2;rw[hv.1] at e1;rw[hv.2] at e2;refine gw Ea ?_;have hex:execOp a.eval o=(do let d ←Deferred.ofValue (real ρ fv) (aq ρ args).toArray;invoke d.target d.args:Sem Next):=by
  unfold execOp;rw[ho];simp only[resolve,hcb];rw[e1.1,ef rfl e2.1]
 rw[hex];exact hc ρ D w hi e1.2 e2.2 o a ro n next Q hk
theorem CA{o:Op}{rs:List bG}(h:aC P o=some (.panic,rs)):∃x r,o=.panic x∧dg x=some r∧rs=[r]:=by
 cases o<;>simp only[aC] at h
 case panic x=>
  obtain⟨_,h2⟩:=aT h;obtain⟨r,rs',rfl,h3,h4⟩:=dh h2;simp[cm] at h4;subst h4;exact⟨x,r,rfl,h3,rfl⟩
 case unOp u t x=>
  exfalso;cases u<;>simp only[aC] at h<;>first
   |(obtain⟨_,_,h2⟩:=bh h;simp at h2;done)
   |(simp at h;done)
 case next it s=>
  exfalso;cases s with
  |true=>simp[aC] at h
  |false=>simp only[aC] at h;obtain⟨hq,_⟩:=aT h;simp at hq
 case makeMap t r=>
  exfalso;cases r with
  |none=>simp only[aC] at h;obtain⟨hq,_⟩:=aT h;simp at hq
  |some r=>simp[aC] at h
 all_goals exfalso
 all_goals repeat' (first
  |(simp only[Option.bind_eq_some_iff] at h;obtain⟨_,_,h⟩:=h)
  |(simp only[Option.map_eq_some_iff] at h;obtain⟨_,_,h⟩:=h;simp at h;done)
  |(obtain⟨_,_,h2⟩:=bh h;simp at h2;done)
  |(simp at h;done)
  |(split at h))
theorem Dm{t:Nat}{x:AV}:mD P H0 .panic [.iface t x] h (.iface t x) h:=by
 intro o rs Ea ρ D w a N env ro n hi he hv next Q hk
 obtain⟨y,r,ho,hr,rfl⟩:=CA Ea;simp only[List.map_cons,List.map_nil,List.cons.injEq,and_true] at hv;have e1:=aF he hr;rw[hv] at e1;refine gw Ea ?_;have hex:(execOp a.eval o).run P w=.halt (.panic (real ρ (.iface t x))) w:=by
  unfold execOp;rw[ho];simp only[e1.1,real];simp[Instr.panic,Sem.run_bind,Result.andThen]
 rw[hex];exact hk ρ w (by rw[bn];exact hi) (Ext.refl _ _ _ _) (by rw[bn];exact e1.2)
theorem BJ{fs:Nat→Option ak}{ms:Nat→String→Option Nat}(sys:om P fs ms){name:String}{t f:Nat}{x:AV}{args:List AV}{v:AV}(hm:ms t name=some f)
  (hc:ga P H0 f (x::args) h v h1)(tG:∀(args:Array Value) (w:World),(callFunc f args).run P w=.ok (.enter f args) w):uF P H0 (.invoke name) (.iface t x::args) h v h1:=by
 intro o rs Ea ρ D w a N env ro n hi he hv next Q hk
 obtain⟨c,r,ho,hcb,FV⟩:=ua Ea;obtain⟨q,rs',rfl,h1,h2⟩:=dh FV;simp only[List.map_cons,List.cons.injEq] at hv;have e1:=aF he h1;have e2:=gS he h2;rw[hv.1] at e1;rw[hv.2] at e2;refine gw Ea ?_;have hrun:(execOp a.eval o).run P w=.ok (.enter f (aq ρ (x::args)).toArray) w:=by
  unfold execOp;rw[ho];simp only[resolve,hcb];rw[e1.1,ef rfl e2.1];simp only[Sem.run_bind,Sem.run_pure,Result.andThen,invoke,real];have hz:(#[Value.iface t (real ρ x)]++(aq ρ args).toArray:Array Value)[0]?=some (Value.iface t (real ρ x)):=by simp
  simp only[hz,callMethod];have s6:=sys.RM t name f hm (real ρ x) w;have hx:(#[Value.iface t (real ρ x)]++(aq ρ args).toArray:Array Value).extract 1 (#[Value.iface t (real ρ x)]++(aq ρ args).toArray:Array Value).size=(aq ρ args).toArray:=by
   apply Array.ext';simp
  rw[hx,Sem.run_bind,run_program];simp only[Result.andThen];rw[Sem.run_bind,s6];simp only[Result.andThen,tG]
  congr 2
  simp[aq]
 rw[hrun];simp only[AV.aX] at e1;exact y3 hc hi (by simp only[bl];exact⟨e1.2,e2.2⟩) hk
theorem zZ{fs:Nat→Option ak}{ms:Nat→String→Option Nat}(sys:om P fs ms){name:String}{t f:Nat}{x:AV}{args:List AV}{v:AV}(hm:ms t name=some f)
  (hc:mO P H0 f (x::args) h v h1)(tG:∀(args:Array Value) (w:World),(callFunc f args).run P w=.ok (.enter f args) w):mD P H0 (.invoke name) (.iface t x::args) h v h1:=by
 intro o rs Ea ρ D w a N env ro n hi he hv next Q hk
 obtain⟨c,r,ho,hcb,FV⟩:=ua Ea;obtain⟨q,rs',rfl,h1,h2⟩:=dh FV;simp only[List.map_cons,List.cons.injEq] at hv;have e1:=aF he h1;have e2:=gS he h2;rw[hv.1] at e1;rw[hv.2] at e2;refine gw Ea ?_;have hrun:(execOp a.eval o).run P w=.ok (.enter f (aq ρ (x::args)).toArray) w:=by
  unfold execOp;rw[ho];simp only[resolve,hcb];rw[e1.1,ef rfl e2.1];simp only[Sem.run_bind,Sem.run_pure,Result.andThen,invoke,real];have hz:(#[Value.iface t (real ρ x)]++(aq ρ args).toArray:Array Value)[0]?=some (Value.iface t (real ρ x)):=by simp
  simp only[hz,callMethod];have s6:=sys.RM t name f hm (real ρ x) w;have hx:(#[Value.iface t (real ρ x)]++(aq ρ args).toArray:Array Value).extract 1 (#[Value.iface t (real ρ x)]++(aq ρ args).toArray:Array Value).size=(aq ρ args).toArray:=by
   apply Array.ext';simp
  rw[hx,Sem.run_bind,run_program];simp only[Result.andThen];rw[Sem.run_bind,s6];simp only[Result.andThen,tG]
  congr 2
  simp[aq]
 rw[hrun];simp only[AV.aX] at e1;exact wZ hc hi (by simp only[bl];exact⟨e1.2,e2.2⟩) hk
theorem Bw(hi:Inv P H0 ρ D h w)(o:Obj):Inv P H0 ρ D h (w.alloc o)∧Ext ρ D h w ρ h (w.alloc o):=by
 have hold:∀r,r<w.heap.size→(w.alloc o).heap[r]?=w.heap[r]?:=by
  intro r hr;show(w.heap.push o)[r]?=_;rw[Array.getElem?_push,if_neg (by omega)]
 constructor
 ·refine⟨hi.lt,hi.top,?_,fun b x hd hx=>?_,hi.apart⟩
  ·have:=hi.low;show H0≤(w.heap.push o).size;simp;omega
  ·have hb:=hi.bJ b x hd hx;exact bP hb (fun _=>id) (fun _ _=>rfl) (hold _ (gF hb))
 ·refine⟨Nat.le_refl _,fun _ _=>rfl,?_,fun r hr _=>hold r hr,fun _ _ _=>rfl,fun _ _ hb=>⟨hb,id⟩,fun _ g1 g2=>by omega,rfl,rfl,rfl⟩;show w.heap.size≤(w.heap.push o).size;simp
theorem run_getLoop{l:Nat}{r:Loop}(hl:w.heap[l]?=some (.loop r)):(Instr.getLoop l).run P w=.ok r w:=by
 have Bj:(getObj l).run P w=.ok (.loop r) w:=by
  unfold getObj;simp only[Sem.run,hl]
 simp[Instr.getLoop,Sem.run_bind,Bj,Result.andThen]
theorem n8{l:Nat}{o o':Obj}(hl:w.heap[l]?=some o)(hnc:∀c t f,o≠.cells c t f):(setObj l o').run P w=.ok () (setRow w l o'):=by
 unfold setObj;cases o<;>first|(exact absurd rfl (hnc _ _ _))|(simp only[Sem.run,hl];rfl)
theorem sF(hi:Inv P H0 ρ D h w){L:Nat}{st st':Nat}{fZ wG:Option AX}{ps:List Nat}{x y:AC}{r r':Loop}(hd:D L)(hg:h.get L=some (.loop st fZ e ps x y))
  (hr:w.heap[(ρ L).bJ]?=some (.loop r))(hr':BC P ρ D st' wG e ps x y r'):
  Inv P H0 ρ D (h.set L (.loop st' wG e ps x y)) (setRow w (ρ L).bJ (.loop r'))∧Ext ρ D h w ρ (h.set L (.loop st' wG e ps x y)) (setRow w (ρ L).bJ (.loop r')):=by
 have hlt:=(Array.getElem?_eq_some_iff.1 hr).1;have hb:=hi.bJ L _ hd hg;refine pH hi hd (by simp[Heap.wr,hg]) rfl (setRow_size _ _ _) (fun q hq=>by rw[di,if_neg hq]) rfl rfl rfl ⟨hb.1,r',?_,hr'⟩;rw[di,if_pos rfl,if_pos hlt]
theorem pg:∀{ps:List Nat} {args:List AV} {e:Env} {tmps:Array Value} {N:Nat},ps.length=args.length→oG N ps=true→tmps.size=N→(∀i,tmps.getD i Go.undef=real ρ (e.get i))→(∀i,(e.get i).aX D)→bl D args→
  bI ρ D N (gP ps args e) {tmps:=(ps.zip (aq ρ args)).foldl (fun tmps p=>tmps.setIfInBounds p.1 p.2) tmps,defers:=[]}
 |[],[],e,tmps,N,_,_,hs,hg,hd,_=>⟨hs,hg,hd⟩
 |[],_::_,_,_,_,hl,_,_,_,_,_=>by simp at hl
 |_::_,[],_,_,_,hl,_,_,_,_,_=>by simp at hl
 |p::ps,v::args,e,tmps,N,hl,hb,hs,hg,hd,ha=>by
  simp only[oG,Bool.and_eq_true] at hb;simp only[bl] at ha;have hput:=bI.put (d:=some p) (v:=v) (a:=⟨tmps,[]⟩) (e:=e) (N:=N) ⟨hs,hg,hd⟩ hb.1 ha.1;simp only[gP,aq,List.zip_cons_cons,List.foldl_cons];exact pg (by simpa using hl) hb.2 hput.size hput.get hput.dom ha.2
theorem Gy{L:Nat}{args:List AV}{fZ cN sL:Option AX}{ps:List Nat}{x y:AC}{e2 e4:Env}{h4:Heap}{ax:AX}{OW:Nat}
  (hg:h.get L=some (.loop 0 fZ e ps x y))(hlen:args.length=ps.length)(rQ:bM P H0 true x (gP ps args e) h .normal e2 h2)(Eb:h2.get L=some (.loop 0 cN e ps x y))
  (uN:bM P H0 true y e2 (h2.set L (.loop 1 cN e ps x y)) ax e4 h4)(hnp:∀v,ax≠.panic v)(TZ:h4.get L=some (.loop OW sL e ps x y)):
  rT P H0 (.yield L) args h (.bool ax.cA) (h4.set L (.loop (bif ax.cA then 0 else 2) (dN ax) e ps x y)):=by
 intro ρ D w hi hf hd o a ro n next Q hk
 simp only[AV.aX] at hf;obtain⟨_,r,hr,hst,hpd,Zo,vT,hps,hca,hcb,Q3,Q4,QB⟩:=hi.bJ L _ hf hg;have hsz:args.length=r.params.size:=by rw[hlen,←hps];simp
 have hrun:((do let d ←Deferred.ofValue (real ρ (.yield L)) (aq ρ args).toArray;invoke d.target d.args:Sem Next).run P w)=
   .ok (.round (ρ L).bJ r.fn ((ps.zip (aq ρ args)).foldl (fun tmps p=>tmps.setIfInBounds p.1 p.2) r.tmps) r.assign r.body) w:=by
  simp only[real,Deferred.ofValue,Sem.run_bind,Sem.run_pure,Result.andThen,invoke,Instr.yield,run_getLoop hr];rw[if_neg (by simp[aO,hsz])];simp only[Sem.run_pure]
  congr 2
  rw[←hps];rw[←Array.foldl_toList];simp
 rw[hrun];refine⟨fun hh=>by simp[FW,Fence.wide] at hh,?_⟩;refine roundIn_of_wpIn trivial ?_;have QK:=pg (ρ:=ρ) (D:=D) (ps:=ps) (args:=args) (e:=e) (tmps:=r.tmps) hlen.symm QB rfl Zo vT hd;have hm0:jC [] w.heap.size ρ D h w ([]:List Deferred):=⟨[],rfl,List.nodup_nil,fun r hr=>by simp at hr⟩;refine Code.wpIn_mono ?_ (rQ r.assign hca r.tmps.size Q3 (some (ρ L).bJ) rfl ρ D w _ w.heap.size (n-1) [] hi QK hm0 (Nat.le_refl _));rintro ex a1 w1 ⟨pN,hex,i1,x1,FE,m1,_⟩;have hex:ex=.normal:=hex;subst hex;have KI:grow D h.next h2.next L:=.inl hf;have uL:=x1.bA L hf;obtain⟨_,r1,Bp,Re,Q6,Rk,QL,Q9,QD,QG,Iz,IB,Ig⟩:=i1.bJ L _ KI Eb;have yE:=sF i1 KI Eb Bp (st':=1) (wG:=cN) (r':={r1 with state:=.busy}) ⟨rfl,Q6,Rk,QL,Q9,QD,QG,Iz,IB,Ig⟩;refine⟨setRow w1 (pN L).bJ (.loop {r1 with state:=.busy}),?_,?_⟩
 ·have IS:r1.state=.ready:=Re;rw[←uL];simp only[Instr.beginRound,Sem.run_bind,run_getLoop Bp,Result.andThen,n8 Bp (fun _ _ _=>by simp),IS,Sem.run_pure]
 ·have hm1:=m1.ext i1.lt yE.2;rw[show(h2.set L (.loop 1 cN e ps x y)).next=h2.next from rfl,bn] at hm1;have hi1:=yE.1;refine Code.wpIn_mono ?_ (uN r.body hcb r.tmps.size Q4 (some (ρ L).bJ) rfl pN _ _ a1 w.heap.size (n-1) [] hi1 FE hm1 (by rw[setRow_size];exact x1.size));rintro ex a2 w2 ⟨iU,hex,i2,x2,Pf,m2,_⟩;have TE:grow (grow D h.next h2.next) (h2.set L (.loop 1 cN e ps x y)).next h4.next L:=.inl KI
  have YF:=x2.bA L KI;obtain⟨_,r2,xD,Ui,IG,Rl,QM,Ra,QE,QH,IA,IC,Ih⟩:=i2.bJ L _ TE TZ;have zE:(iU L).bJ=(ρ L).bJ:=by rw[YF,uL]
  have fin:∀(jump:Option Code),(match dN ax with
    |none=>jump=none
    |some (.exit id)=>jump=some (.exit id)
    |some .ret=>jump=some .ret
    |_=>False)→jump.isNone=ax.cA→∃v w',(Instr.endRound (ρ L).bJ jump).run P w2=.ok v w'∧next (a.put o.dst v) w':=by
   intro jump hj hjn;have Br:=sF i2 TE TZ xD (st':=bif ax.cA then 0 else 2) (wG:=dN ax) (r':={r2 with state:=if jump.isNone then .ready else .done,pending:=jump})
    ⟨by rw[hjn];cases ax.cA<;>rfl,hj,Rl,QM,Ra,QE,QH,IA,IC,Ih⟩
   refine⟨_,setRow w2 (iU L).bJ (.loop {r2 with state:=if jump.isNone then .ready else .done,pending:=jump}),?_,hk iU _ ?_ ?_ (by simp[AV.aX])⟩
   ·rw[←zE];simp only[Instr.endRound,Sem.run_bind,run_getLoop xD,Result.andThen,n8 xD (fun _ _ _=>by simp),Sem.run_pure,hjn];rfl
   ·have:=Br.1;have g1:=x1.next;have g2:=x2.next;rw[show(h2.set L (.loop 1 cN e ps x y)).next=h2.next from rfl] at g2 this;rw[dG D g1 g2] at this;exact this
   ·have xb:Ext pN (grow D h.next h2.next) h2 w1 iU h4 w2:=Ext.trans i1.lt yE.2 (by
     rw[show(h2.set L (.loop 1 cN e ps x y)).next=h2.next from rfl,bn];exact x2)
    have xc:=Ext.trans i1.lt xb Br.2;exact Ext.trans hi.lt x1 xc
  cases ax with
  |normal=>
   have hex:ex=.normal:=hex;subst hex;exact fin none rfl rfl
  |ret=>
   have hex:ex=.ret:=hex;subst hex;exact fin (some .ret) rfl rfl
  |exit id=>
   have hex:ex=.exit id:=hex;subst hex;exact fin (some (.exit id)) rfl rfl
  |panic v=>exact absurd rfl (hnp v)
end
end Ads
end Go.Proofs.YtnlcabhfkpafmaaGreat
