/-
  What big steps mean in the model: calls of values and of methods; ranges over functions.
-/
import Derived.Test.YtnlcabhfkpafmaaGreatAdsCall
import Derived.RangeFuncCalls
set_option linter.unusedSimpArgs false
set_option linter.unusedVariables false
namespace Go.Proofs.YtnlcabhfkpafmaaGreat
namespace Ads
section
variable {P:Program} {H0 W0:Nat} {ρ ρ':cF} {D D':Dom} {h h' h1 h2:Heap} {w w':World} {N n:Nat} {env e e':Env} {a:Act} {ro:Option Nat} {rd:Bool}
theorem vz{f:Nat}{args:Array Value}{R:Ending→World→Prop}(hc:CallsIn Fence.wide n P f args w R):CallsIn (FW ro) n P f args w R:=by
 cases ro with
 |none=>exact hc
 |some l=>exact CallsIn.inRound l hc
theorem yY{o:Oper}{f:Nat}{args:List AV}{v:AV}{next:Act→World→Prop}{Q:Exit→Act→World→Prop}(hc:ga P H0 f args h v h1)(hi:Inv P H0 ρ D h w)(hd:bn D args)
  (hk:∀ρ' w',Inv P H0 ρ' (grow D h.next h1.next) h1 w'→Ext ρ D h w ρ' h1 w'→v.aY (grow D h.next h1.next)→next (a.put o.dst (real ρ' v)) w'):
  o.uponIn (FW ro) n P a next Q (.ok (.enter f (au ρ args).toArray) w):=by
 refine⟨fun hh=>by simp[FW,Fence.wide] at hh,?_⟩;refine CallsIn.mono (vz (hc ρ D w (n-1) hi hd)) ?_;rintro e w' ⟨ρ',rfl,g1,g2,g3⟩;exact hk ρ' w' g1 g2 g3
theorem Cw{f:Nat}{first aM args:List AV}{v:AV}(hc:ga P H0 f (first++(args++aM)) h v h1)(tH:∀(args:Array Value) (w:World),(callFunc f args).run P w=.ok (.enter f args) w):
  rU P H0 (.func (.func f) first aM) args h v h1:=by
 intro ρ D w hi hf hd o a ro n next Q hk
 simp only[AV.aY] at hf;have hrun:((do let d ←Deferred.ofValue (real ρ (.func (.func f) first aM)) (au ρ args).toArray;invoke d.target d.args:Sem Next).run P w)=.ok (.enter f (au ρ (first++(args++aM))).toArray) w:=by
  simp only[real,Deferred.ofValue,Sem.run_bind,Sem.run_pure,Result.andThen,invoke,tH]
  congr 2
  simp[iw]
 rw[hrun];have hda:bn D (first++(args++aM)):=by
  rw[aS];intro x hx;rcases List.mem_append.1 hx with hx|hx
  ·exact(aS D _).1 hf.2.1 x hx
  ·rcases List.mem_append.1 hx with hx|hx
   ·exact(aS D _).1 hd x hx
   ·exact(aS D _).1 hf.2.2 x hx
 exact yY hc hi hda hk
theorem w6{o:Oper}{f:Nat}{args:List AV}{v:AV}{next:Act→World→Prop}{Q:Exit→Act→World→Prop}(hc:mQ P H0 f args h v h1)(hi:Inv P H0 ρ D h w)(hd:bn D args)
  (hk:∀ρ' w',Inv P H0 ρ' (grow D h.next h1.next) h1 w'→Ext ρ D h w ρ' h1 w'→v.aY (grow D h.next h1.next)→Q (.panic [{v:=real ρ' v,recovered:=false}]) a w'):
  o.uponIn (FW ro) n P a next Q (.ok (.enter f (au ρ args).toArray) w):=by
 refine⟨fun hh=>by simp[FW,Fence.wide] at hh,?_⟩;refine CallsIn.mono (vz (hc ρ D w (n-1) hi hd)) ?_;rintro e w' ⟨ρ',rfl,g1,g2,g3⟩;exact hk ρ' w' g1 g2 g3
theorem AR{f:Nat}{first aM args:List AV}{v:AV}(hc:mQ P H0 f (first++(args++aM)) h v h1)(tH:∀(args:Array Value) (w:World),(callFunc f args).run P w=.ok (.enter f args) w):
  pP P H0 (.func (.func f) first aM) args h v h1:=by
 intro ρ D w hi hf hd o a ro n next Q hk
 simp only[AV.aY] at hf;have hrun:((do let d ←Deferred.ofValue (real ρ (.func (.func f) first aM)) (au ρ args).toArray;invoke d.target d.args:Sem Next).run P w)=.ok (.enter f (au ρ (first++(args++aM))).toArray) w:=by
  simp only[real,Deferred.ofValue,Sem.run_bind,Sem.run_pure,Result.andThen,invoke,tH]
  congr 2
  simp[iw]
 rw[hrun];have hda:bn D (first++(args++aM)):=by
  rw[aS];intro x hx;rcases List.mem_append.1 hx with hx|hx
  ·exact(aS D _).1 hf.2.1 x hx
  ·rcases List.mem_append.1 hx with hx|hx
   ·exact(aS D _).1 hd x hx
   ·exact(aS D _).1 hf.2.2 x hx
 exact w6 hc hi hda hk
theorem ya{o:Op}{rs:List bH}(h:aD P o=some (.call,rs)):∃c f,o=.call c∧c.callee=.value f∧cm (f::c.args.toList)=some rs:=by
 cases o<;>simp only[aD] at h
 case call c=>
  split at h
  ·rename_i f hcb;simp only[Option.map_eq_some_iff,Prod.mk.injEq] at h;obtain⟨rs',h1,_,rfl⟩:=h;exact⟨c,f,rfl,hcb,h1⟩
  ·simp only[Option.map_eq_some_iff] at h;obtain⟨_,_,h⟩:=h;simp at h
  ·exfalso;repeat' (first
    |(simp only[Option.bind_eq_some_iff] at h;obtain⟨_,_,h⟩:=h)
    |(obtain⟨_,_,h2⟩:=bl h;simp at h2;done)
    |(simp at h;done)
    |(split at h))
 case unOp u t x=>
  exfalso;cases u<;>simp only[aD] at h<;>first
   |(obtain⟨_,_,h2⟩:=bl h;simp at h2;done)
   |(simp at h;done)
 case next it s=>
  exfalso;cases s with
  |true=>simp[aD] at h
  |false=>simp only[aD] at h;obtain⟨hq,_⟩:=aU h;simp at hq
 case makeMap t r=>
  exfalso;cases r with
  |none=>simp only[aD] at h;obtain⟨hq,_⟩:=aU h;simp at hq
  |some r=>simp[aD] at h
 all_goals exfalso
 all_goals repeat' (first
  |(simp only[Option.bind_eq_some_iff] at h;obtain⟨_,_,h⟩:=h)
  |(simp only[Option.map_eq_some_iff] at h;obtain⟨_,_,h⟩:=h;simp at h;done)
  |(obtain⟨_,_,h2⟩:=bl h;simp at h2;done)
  |(simp at h;done)
  |(split at h))
theorem uc{o:Op}{rs:List bH}{name:String}(h:aD P o=some (.invoke name,rs)):∃c r,o=.call c∧c.callee=.invoke r name∧cm (r::c.args.toList)=some rs:=by
 cases o<;>simp only[aD] at h
 case call c=>
  split at h
  ·simp only[Option.map_eq_some_iff] at h;obtain⟨_,_,h⟩:=h;simp at h
  ·rename_i r nm hcb;simp only[Option.map_eq_some_iff,Prod.mk.injEq,fH.invoke.injEq] at h;obtain⟨rs',h1,rfl,rfl⟩:=h;exact⟨c,r,rfl,hcb,h1⟩
  ·exfalso;repeat' (first
    |(simp only[Option.bind_eq_some_iff] at h;obtain⟨_,_,h⟩:=h)
    |(obtain⟨_,_,h2⟩:=bl h;simp at h2;done)
    |(simp at h;done)
    |(split at h))
 case unOp u t x=>
  exfalso;cases u<;>simp only[aD] at h<;>first
   |(obtain⟨_,_,h2⟩:=bl h;simp at h2;done)
   |(simp at h;done)
 case next it s=>
  exfalso;cases s with
  |true=>simp[aD] at h
  |false=>simp only[aD] at h;obtain⟨hq,_⟩:=aU h;simp at hq
 case makeMap t r=>
  exfalso;cases r with
  |none=>simp only[aD] at h;obtain⟨hq,_⟩:=aU h;simp at hq
  |some r=>simp[aD] at h
 all_goals exfalso
 all_goals repeat' (first
  |(simp only[Option.bind_eq_some_iff] at h;obtain⟨_,_,h⟩:=h)
  |(simp only[Option.map_eq_some_iff] at h;obtain⟨_,_,h⟩:=h;simp at h;done)
  |(obtain⟨_,_,h2⟩:=bl h;simp at h2;done)
  |(simp at h;done)
  |(split at h))
theorem Gh{fv:AV}{args:List AV}{v:AV}(hc:rU P H0 fv args h v h1):uG P H0 .call (fv::args) h v h1:=by
 intro o rs Ea ρ D w a N env ro n hi he hv next Q hk
 obtain⟨c,f,ho,hcb,FV⟩:=ya Ea;obtain⟨r,rs',rfl,h1,h2⟩:=dh FV;simp only[List.map_cons,List.cons.injEq] at hv;have e1:=aG he h1;have e2:=gS he h2;rw[hv.1] at e1;rw[hv.2] at e2;refine gw Ea ?_;have hex:execOp a.eval o=(do let d ←Deferred.ofValue (real ρ fv) (au ρ args).toArray;invoke d.target d.args:Sem Next):=by
  unfold execOp;rw[ho];simp only[resolve,hcb];rw[e1.1,ef rfl e2.1]
 rw[hex];exact hc ρ D w hi e1.2 e2.2 o a ro n next Q hk
theorem Dk{fv:AV}{args:List AV}{v:AV}(hc:pP P H0 fv args h v h1):mF P H0 .call (fv::args) h v h1:=by
 intro o rs Ea ρ D w a N env ro n hi he hv next Q hk
 obtain⟨c,f,ho,hcb,FV⟩:=ya Ea;obtain⟨r,rs',rfl,h1,h2⟩:=dh FV;simp only[List.map_cons,List.cons.injEq] at hv;have e1:=aG he h1;have e2:=gS he h2;rw[hv.1] at e1;rw[hv.2] at e2;refine gw Ea ?_;have hex:execOp a.eval o=(do let d ←Deferred.ofValue (real ρ fv) (au ρ args).toArray;invoke d.target d.args:Sem Next):=by
  unfold execOp;rw[ho];simp only[resolve,hcb];rw[e1.1,ef rfl e2.1]
 rw[hex];exact hc ρ D w hi e1.2 e2.2 o a ro n next Q hk
theorem Cz{o:Op}{rs:List bH}(h:aD P o=some (.panic,rs)):∃x r,o=.panic x∧dg x=some r∧rs=[r]:=by
 cases o<;>simp only[aD] at h
 case panic x=>
  obtain⟨_,h2⟩:=aU h;obtain⟨r,rs',rfl,h3,h4⟩:=dh h2;simp[cm] at h4;subst h4;exact⟨x,r,rfl,h3,rfl⟩
 case unOp u t x=>
  exfalso;cases u<;>simp only[aD] at h<;>first
   |(obtain⟨_,_,h2⟩:=bl h;simp at h2;done)
   |(simp at h;done)
 case next it s=>
  exfalso;cases s with
  |true=>simp[aD] at h
  |false=>simp only[aD] at h;obtain⟨hq,_⟩:=aU h;simp at hq
 case makeMap t r=>
  exfalso;cases r with
  |none=>simp only[aD] at h;obtain⟨hq,_⟩:=aU h;simp at hq
  |some r=>simp[aD] at h
 all_goals exfalso
 all_goals repeat' (first
  |(simp only[Option.bind_eq_some_iff] at h;obtain⟨_,_,h⟩:=h)
  |(simp only[Option.map_eq_some_iff] at h;obtain⟨_,_,h⟩:=h;simp at h;done)
  |(obtain⟨_,_,h2⟩:=bl h;simp at h2;done)
  |(simp at h;done)
  |(split at h))
theorem Dl{t:Nat}{x:AV}:mF P H0 .panic [.iface t x] h (.iface t x) h:=by
 intro o rs Ea ρ D w a N env ro n hi he hv next Q hk
 obtain⟨y,r,ho,hr,rfl⟩:=Cz Ea;simp only[List.map_cons,List.map_nil,List.cons.injEq,and_true] at hv;have e1:=aG he hr;rw[hv] at e1;refine gw Ea ?_;have hex:(execOp a.eval o).run P w=.halt (.panic (real ρ (.iface t x))) w:=by
  unfold execOp;rw[ho];simp only[e1.1,real];simp[Instr.panic,Sem.run_bind,Result.andThen]
 rw[hex];exact hk ρ w (by rw[bp];exact hi) (Ext.refl _ _ _ _) (by rw[bp];exact e1.2)
theorem BJ{fs:Nat→Option an}{ms:Nat→String→Option Nat}(sys:ou P fs ms){name:String}{t f:Nat}{x:AV}{args:List AV}{v:AV}(hm:ms t name=some f)
  (hc:ga P H0 f (x::args) h v h1)(tH:∀(args:Array Value) (w:World),(callFunc f args).run P w=.ok (.enter f args) w):uG P H0 (.invoke name) (.iface t x::args) h v h1:=by
 intro o rs Ea ρ D w a N env ro n hi he hv next Q hk
 obtain⟨c,r,ho,hcb,FV⟩:=uc Ea;obtain⟨q,rs',rfl,h1,h2⟩:=dh FV;simp only[List.map_cons,List.cons.injEq] at hv;have e1:=aG he h1;have e2:=gS he h2;rw[hv.1] at e1;rw[hv.2] at e2;refine gw Ea ?_;have hrun:(execOp a.eval o).run P w=.ok (.enter f (au ρ (x::args)).toArray) w:=by
  unfold execOp;rw[ho];simp only[resolve,hcb];rw[e1.1,ef rfl e2.1];simp only[Sem.run_bind,Sem.run_pure,Result.andThen,invoke,real];have hz:(#[Value.iface t (real ρ x)]++(au ρ args).toArray:Array Value)[0]?=some (Value.iface t (real ρ x)):=by simp
  simp only[hz,callMethod];have s7:=sys.RL t name f hm (real ρ x) w;have hx:(#[Value.iface t (real ρ x)]++(au ρ args).toArray:Array Value).extract 1 (#[Value.iface t (real ρ x)]++(au ρ args).toArray:Array Value).size=(au ρ args).toArray:=by
   apply Array.ext';simp
  rw[hx,Sem.run_bind,run_program];simp only[Result.andThen];rw[Sem.run_bind,s7];simp only[Result.andThen,tH]
  congr 2
  simp[au]
 rw[hrun];simp only[AV.aY] at e1;exact yY hc hi (by simp only[bn];exact⟨e1.2,e2.2⟩) hk
theorem zZ{fs:Nat→Option an}{ms:Nat→String→Option Nat}(sys:ou P fs ms){name:String}{t f:Nat}{x:AV}{args:List AV}{v:AV}(hm:ms t name=some f)
  (hc:mQ P H0 f (x::args) h v h1)(tH:∀(args:Array Value) (w:World),(callFunc f args).run P w=.ok (.enter f args) w):mF P H0 (.invoke name) (.iface t x::args) h v h1:=by
 intro o rs Ea ρ D w a N env ro n hi he hv next Q hk
 obtain⟨c,r,ho,hcb,FV⟩:=uc Ea;obtain⟨q,rs',rfl,h1,h2⟩:=dh FV;simp only[List.map_cons,List.cons.injEq] at hv;have e1:=aG he h1;have e2:=gS he h2;rw[hv.1] at e1;rw[hv.2] at e2;refine gw Ea ?_;have hrun:(execOp a.eval o).run P w=.ok (.enter f (au ρ (x::args)).toArray) w:=by
  unfold execOp;rw[ho];simp only[resolve,hcb];rw[e1.1,ef rfl e2.1];simp only[Sem.run_bind,Sem.run_pure,Result.andThen,invoke,real];have hz:(#[Value.iface t (real ρ x)]++(au ρ args).toArray:Array Value)[0]?=some (Value.iface t (real ρ x)):=by simp
  simp only[hz,callMethod];have s7:=sys.RL t name f hm (real ρ x) w;have hx:(#[Value.iface t (real ρ x)]++(au ρ args).toArray:Array Value).extract 1 (#[Value.iface t (real ρ x)]++(au ρ args).toArray:Array Value).size=(au ρ args).toArray:=by
   apply Array.ext';simp
  rw[hx,Sem.run_bind,run_program];simp only[Result.andThen];rw[Sem.run_bind,s7];simp only[Result.andThen,tH]
  congr 2
  simp[au]
 rw[hrun];simp only[AV.aY] at e1;exact w6 hc hi (by simp only[bn];exact⟨e1.2,e2.2⟩) hk
theorem Bw(hi:Inv P H0 ρ D h w)(o:Obj):Inv P H0 ρ D h (w.alloc o)∧Ext ρ D h w ρ h (w.alloc o):=by
 have hold:∀r,r<w.heap.size→(w.alloc o).heap[r]?=w.heap[r]?:=by
  intro r hr;show(w.heap.push o)[r]?=_;rw[Array.getElem?_push,if_neg (by omega)]
 constructor
 ·refine⟨hi.lt,hi.top,?_,fun b x hd hx=>?_,hi.apart⟩
  ·have:=hi.low;show H0≤(w.heap.push o).size;simp;omega
  ·have hb:=hi.bK b x hd hx;exact bQ hb (fun _=>id) (fun _ _=>rfl) (hold _ (gF hb))
 ·refine⟨Nat.le_refl _,fun _ _=>rfl,?_,fun r hr _=>hold r hr,fun _ _ _=>rfl,fun _ _ hb=>⟨hb,id⟩,fun _ g1 g2=>by omega,rfl,rfl,rfl⟩;show w.heap.size≤(w.heap.push o).size;simp
theorem run_getLoop{l:Nat}{r:Loop}(hl:w.heap[l]?=some (.loop r)):(Instr.getLoop l).run P w=.ok r w:=by
 have Bj:(getObj l).run P w=.ok (.loop r) w:=by
  unfold getObj;simp only[Sem.run,hl]
 simp[Instr.getLoop,Sem.run_bind,Bj,Result.andThen]
theorem oa{l:Nat}{o o':Obj}(hl:w.heap[l]?=some o)(hnc:∀c t f,o≠.cells c t f):(setObj l o').run P w=.ok () (setRow w l o'):=by
 unfold setObj;cases o<;>first|(exact absurd rfl (hnc _ _ _))|(simp only[Sem.run,hl];rfl)
theorem sG(hi:Inv P H0 ρ D h w){L:Nat}{st st':Nat}{fZ wH:Option AX}{ps:List Nat}{x y:AC}{r r':Loop}(hd:D L)(hg:h.get L=some (.loop st fZ e ps x y))
  (hr:w.heap[(ρ L).bK]?=some (.loop r))(hr':BC P ρ D st' wH e ps x y r'):
  Inv P H0 ρ D (h.set L (.loop st' wH e ps x y)) (setRow w (ρ L).bK (.loop r'))∧Ext ρ D h w ρ (h.set L (.loop st' wH e ps x y)) (setRow w (ρ L).bK (.loop r')):=by
 have hlt:=(Array.getElem?_eq_some_iff.1 hr).1;have hb:=hi.bK L _ hd hg;refine pJ hi hd (by simp[Heap.wr,hg]) rfl (setRow_size _ _ _) (fun q hq=>by rw[di,if_neg hq]) rfl rfl rfl ⟨hb.1,r',?_,hr'⟩;rw[di,if_pos rfl,if_pos hlt]
theorem pn:∀{ps:List Nat} {args:List AV} {e:Env} {tmps:Array Value} {N:Nat},ps.length=args.length→oI N ps=true→tmps.size=N→(∀i,tmps.getD i Go.undef=real ρ (e.get i))→(∀i,(e.get i).aY D)→bn D args→
  bJ ρ D N (gP ps args e) {tmps:=(ps.zip (au ρ args)).foldl (fun tmps p=>tmps.setIfInBounds p.1 p.2) tmps,defers:=[]}
 |[],[],e,tmps,N,_,_,hs,hg,hd,_=>⟨hs,hg,hd⟩
 |[],_::_,_,_,_,hl,_,_,_,_,_=>by simp at hl
 |_::_,[],_,_,_,hl,_,_,_,_,_=>by simp at hl
 |p::ps,v::args,e,tmps,N,hl,hb,hs,hg,hd,ha=>by
  simp only[oI,Bool.and_eq_true] at hb;simp only[bn] at ha;have hput:=bJ.put (d:=some p) (v:=v) (a:=⟨tmps,[]⟩) (e:=e) (N:=N) ⟨hs,hg,hd⟩ hb.1 ha.1;simp only[gP,au,List.zip_cons_cons,List.foldl_cons];exact pn (by simpa using hl) hb.2 hput.size hput.get hput.dom ha.2
theorem Gy{L:Nat}{args:List AV}{fZ cN sM:Option AX}{ps:List Nat}{x y:AC}{e2 e4:Env}{h4:Heap}{ax:AX}{OU:Nat}
  (hg:h.get L=some (.loop 0 fZ e ps x y))(hlen:args.length=ps.length)(rR:bN P H0 true x (gP ps args e) h .normal e2 h2)(Eb:h2.get L=some (.loop 0 cN e ps x y))
  (uO:bN P H0 true y e2 (h2.set L (.loop 1 cN e ps x y)) ax e4 h4)(hnp:∀v,ax≠.panic v)(T1:h4.get L=some (.loop OU sM e ps x y)):
  rU P H0 (.yield L) args h (.bool ax.cB) (h4.set L (.loop (bif ax.cB then 0 else 2) (dO ax) e ps x y)):=by
 intro ρ D w hi hf hd o a ro n next Q hk
 simp only[AV.aY] at hf;obtain⟨_,r,hr,hst,hpd,Zq,vU,hps,hca,hcb,Q1,Q3,QA⟩:=hi.bK L _ hf hg;have hsz:args.length=r.params.size:=by rw[hlen,←hps];simp
 have hrun:((do let d ←Deferred.ofValue (real ρ (.yield L)) (au ρ args).toArray;invoke d.target d.args:Sem Next).run P w)=
   .ok (.round (ρ L).bK r.fn ((ps.zip (au ρ args)).foldl (fun tmps p=>tmps.setIfInBounds p.1 p.2) r.tmps) r.assign r.body) w:=by
  simp only[real,Deferred.ofValue,Sem.run_bind,Sem.run_pure,Result.andThen,invoke,Instr.yield,run_getLoop hr];rw[if_neg (by simp[aP,hsz])];simp only[Sem.run_pure]
  congr 2
  rw[←hps];rw[←Array.foldl_toList];simp
 rw[hrun];refine⟨fun hh=>by simp[FW,Fence.wide] at hh,?_⟩;refine roundIn_of_wpIn trivial ?_;have QJ:=pn (ρ:=ρ) (D:=D) (ps:=ps) (args:=args) (e:=e) (tmps:=r.tmps) hlen.symm QA rfl Zq vU hd;have hm0:jE [] w.heap.size ρ D h w ([]:List Deferred):=⟨[],rfl,List.nodup_nil,fun r hr=>by simp at hr⟩;refine Code.wpIn_mono ?_ (rR r.assign hca r.tmps.size Q1 (some (ρ L).bK) rfl ρ D w _ w.heap.size (n-1) [] hi QJ hm0 (Nat.le_refl _));rintro ex a1 w1 ⟨pO,hex,i1,x1,FE,m1,_⟩;have hex:ex=.normal:=hex;subst hex;have KG:grow D h.next h2.next L:=.inl hf;have uM:=x1.bB L hf;obtain⟨_,r1,Bp,Rc,Q5,Rj,QK,Q6,QC,QF,Iy,IA,Ie⟩:=i1.bK L _ KG Eb;have yC:=sG i1 KG Eb Bp (st':=1) (wH:=cN) (r':={r1 with state:=.busy}) ⟨rfl,Q5,Rj,QK,Q6,QC,QF,Iy,IA,Ie⟩;refine⟨setRow w1 (pO L).bK (.loop {r1 with state:=.busy}),?_,?_⟩
 ·have IQ:r1.state=.ready:=Rc;rw[←uM];simp only[Instr.beginRound,Sem.run_bind,run_getLoop Bp,Result.andThen,oa Bp (fun _ _ _=>by simp),IQ,Sem.run_pure]
 ·have hm1:=m1.ext i1.lt yC.2;rw[show(h2.set L (.loop 1 cN e ps x y)).next=h2.next from rfl,bp] at hm1;have hi1:=yC.1;refine Code.wpIn_mono ?_ (uO r.body hcb r.tmps.size Q3 (some (ρ L).bK) rfl pO _ _ a1 w.heap.size (n-1) [] hi1 FE hm1 (by rw[setRow_size];exact x1.size));rintro ex a2 w2 ⟨iW,hex,i2,x2,Pd,m2,_⟩;have TG:grow (grow D h.next h2.next) (h2.set L (.loop 1 cN e ps x y)).next h4.next L:=.inl KG
  have YH:=x2.bB L KG;obtain⟨_,r2,xD,Uk,IF,Rk,QL,Q9,QD,QG,Iz,IB,Ig⟩:=i2.bK L _ TG T1;have zE:(iW L).bK=(ρ L).bK:=by rw[YH,uM]
  have fin:∀(jump:Option Code),(match dO ax with
    |none=>jump=none
    |some (.exit id)=>jump=some (.exit id)
    |some .ret=>jump=some .ret
    |_=>False)→jump.isNone=ax.cB→∃v w',(Instr.endRound (ρ L).bK jump).run P w2=.ok v w'∧next (a.put o.dst v) w':=by
   intro jump hj hjn;have Br:=sG i2 TG T1 xD (st':=bif ax.cB then 0 else 2) (wH:=dO ax) (r':={r2 with state:=if jump.isNone then .ready else .done,pending:=jump})
    ⟨by rw[hjn];cases ax.cB<;>rfl,hj,Rk,QL,Q9,QD,QG,Iz,IB,Ig⟩
   refine⟨_,setRow w2 (iW L).bK (.loop {r2 with state:=if jump.isNone then .ready else .done,pending:=jump}),?_,hk iW _ ?_ ?_ (by simp[AV.aY])⟩
   ·rw[←zE];simp only[Instr.endRound,Sem.run_bind,run_getLoop xD,Result.andThen,oa xD (fun _ _ _=>by simp),Sem.run_pure,hjn];rfl
   ·have:=Br.1;have g1:=x1.next;have g2:=x2.next;rw[show(h2.set L (.loop 1 cN e ps x y)).next=h2.next from rfl] at g2 this;rw[dG D g1 g2] at this;exact this
   ·have xb:Ext pO (grow D h.next h2.next) h2 w1 iW h4 w2:=Ext.trans i1.lt yC.2 (by
     rw[show(h2.set L (.loop 1 cN e ps x y)).next=h2.next from rfl,bp];exact x2)
    have xc:=Ext.trans i1.lt xb Br.2;exact Ext.trans hi.lt x1 xc
  cases ax with
  |normal=>
   have hex:ex=.normal:=hex;subst hex;exact fin none rfl rfl
  |ret=>
   have hex:ex=.ret:=hex;subst hex;exact fin (some .ret) rfl rfl
  |exit id=>
   have hex:ex=.exit id:=hex;subst hex;exact fin (some (.exit id)) rfl rfl
  |panic v=>exact absurd rfl (hnp v)
end
end Ads
end Go.Proofs.YtnlcabhfkpafmaaGreat
