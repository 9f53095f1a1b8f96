/-
  What big steps mean in the model: calls of values and of methods; ranges over functions.
-/
import Derived.Test.YtenafeojcgmnhaaAdsCall
import Derived.RangeFuncCalls
set_option linter.unusedSimpArgs false
set_option linter.unusedVariables false
namespace Go.Proofs.Ytenafeojcgmnhaa
namespace Ads
section
variable {P:Program} {H0 W0:Nat} {ρ ρ':cD} {D D':Dom} {h h' h1 h2:Heap} {w w':World} {N n:Nat} {env e e':Env} {a:Act} {ro:Option Nat} {rd:Bool}
theorem uR{f:Nat}{args:Array Value}{R:Ending→World→Prop}(hc:CallsIn Fence.wide n P f args w R):CallsIn (FW ro) n P f args w R:=by
 cases ro with
 |none=>exact hc
 |some l=>exact CallsIn.inRound l hc
theorem yg{o:Oper}{f:Nat}{args:List AV}{v:AV}{next:Act→World→Prop}{Q:Exit→Act→World→Prop}(hc:gL P H0 f args h v h1)(hi:Inv P H0 ρ D h w)(hd:bg D args)
  (hk:∀ρ' w',Inv P H0 ρ' (grow D h.next h1.next) h1 w'→Ext ρ D h w ρ' h1 w'→v.aR (grow D h.next h1.next)→next (a.put o.dst (real ρ' v)) w'):
  o.uponIn (FW ro) n P a next Q (.ok (.enter f (au ρ args).toArray) w):=by
 refine⟨fun hh=>by simp[FW,Fence.wide] at hh,?_⟩;refine CallsIn.mono (uR (hc ρ D w (n-1) hi hd)) ?_;rintro e w' ⟨ρ',rfl,g1,g2,g3⟩;exact hk ρ' w' g1 g2 g3
theorem B5{f:Nat}{first aX args:List AV}{v:AV}(hc:gL P H0 f (first++(args++aX)) h v h1)(tA:∀(args:Array Value) (w:World),(callFunc f args).run P w=.ok (.enter f args) w):
  ru P H0 (.func (.func f) first aX) args h v h1:=by
 intro ρ D w hi hf hd o a ro n next Q hk
 simp only[AV.aR] at hf;have hrun:((do let d ←Deferred.ofValue (real ρ (.func (.func f) first aX)) (au ρ args).toArray;invoke d.target d.args:Sem Next).run P w)=.ok (.enter f (au ρ (first++(args++aX))).toArray) w:=by
  simp only[real,Deferred.ofValue,Sem.run_bind,Sem.run_pure,Result.andThen,invoke,tA]
  congr 2
  simp[iF]
 rw[hrun];have hda:bg D (first++(args++aX)):=by
  rw[aM];intro x hx;rcases List.mem_append.1 hx with hx|hx
  ·exact(aM D _).1 hf.2.1 x hx
  ·rcases List.mem_append.1 hx with hx|hx
   ·exact(aM D _).1 hd x hx
   ·exact(aM D _).1 hf.2.2 x hx
 exact yg hc hi hda hk
theorem wk{o:Oper}{f:Nat}{args:List AV}{v:AV}{next:Act→World→Prop}{Q:Exit→Act→World→Prop}(hc:mI P H0 f args h v h1)(hi:Inv P H0 ρ D h w)(hd:bg D args)
  (hk:∀ρ' w',Inv P H0 ρ' (grow D h.next h1.next) h1 w'→Ext ρ D h w ρ' h1 w'→v.aR (grow D h.next h1.next)→Q (.panic [{v:=real ρ' v,recovered:=false}]) a w'):
  o.uponIn (FW ro) n P a next Q (.ok (.enter f (au ρ args).toArray) w):=by
 refine⟨fun hh=>by simp[FW,Fence.wide] at hh,?_⟩;refine CallsIn.mono (uR (hc ρ D w (n-1) hi hd)) ?_;rintro e w' ⟨ρ',rfl,g1,g2,g3⟩;exact hk ρ' w' g1 g2 g3
theorem At{f:Nat}{first aX args:List AV}{v:AV}(hc:mI P H0 f (first++(args++aX)) h v h1)(tA:∀(args:Array Value) (w:World),(callFunc f args).run P w=.ok (.enter f args) w):
  pq P H0 (.func (.func f) first aX) args h v h1:=by
 intro ρ D w hi hf hd o a ro n next Q hk
 simp only[AV.aR] at hf;have hrun:((do let d ←Deferred.ofValue (real ρ (.func (.func f) first aX)) (au ρ args).toArray;invoke d.target d.args:Sem Next).run P w)=.ok (.enter f (au ρ (first++(args++aX))).toArray) w:=by
  simp only[real,Deferred.ofValue,Sem.run_bind,Sem.run_pure,Result.andThen,invoke,tA]
  congr 2
  simp[iF]
 rw[hrun];have hda:bg D (first++(args++aX)):=by
  rw[aM];intro x hx;rcases List.mem_append.1 hx with hx|hx
  ·exact(aM D _).1 hf.2.1 x hx
  ·rcases List.mem_append.1 hx with hx|hx
   ·exact(aM D _).1 hd x hx
   ·exact(aM D _).1 hf.2.2 x hx
 exact wk hc hi hda hk
theorem xx{o:Op}{rs:List bG}(h:aA P o=some (.call,rs)):∃c f,o=.call c∧c.callee=.value f∧b8 (f::c.args.toList)=some rs:=by
 cases o<;>simp only[aA] at h
 case call c=>
  split at h
  ·rename_i f hcb;simp only[Option.map_eq_some_iff,Prod.mk.injEq] at h;obtain⟨rs',h1,_,rfl⟩:=h;exact⟨c,f,rfl,hcb,h1⟩
  ·simp only[Option.map_eq_some_iff] at h;obtain⟨_,_,h⟩:=h;simp at h
  ·exfalso;repeat' (first
    |(simp only[Option.bind_eq_some_iff] at h;obtain⟨_,_,h⟩:=h)
    |(obtain⟨_,_,h2⟩:=bf h;simp at h2;done)
    |(simp at h;done)
    |(split at h))
 case unOp u t x=>
  exfalso;cases u<;>simp only[aA] at h<;>first
   |(obtain⟨_,_,h2⟩:=bf h;simp at h2;done)
   |(simp at h;done)
 case next it s=>
  exfalso;cases s with
  |true=>simp[aA] at h
  |false=>simp only[aA] at h;obtain⟨hq,_⟩:=aQ h;simp at hq
 case makeMap t r=>
  exfalso;cases r with
  |none=>simp only[aA] at h;obtain⟨hq,_⟩:=aQ h;simp at hq
  |some r=>simp[aA] at h
 all_goals exfalso
 all_goals repeat' (first
  |(simp only[Option.bind_eq_some_iff] at h;obtain⟨_,_,h⟩:=h)
  |(simp only[Option.map_eq_some_iff] at h;obtain⟨_,_,h⟩:=h;simp at h;done)
  |(obtain⟨_,_,h2⟩:=bf h;simp at h2;done)
  |(simp at h;done)
  |(split at h))
theorem tR{o:Op}{rs:List bG}{name:String}(h:aA P o=some (.invoke name,rs)):∃c r,o=.call c∧c.callee=.invoke r name∧b8 (r::c.args.toList)=some rs:=by
 cases o<;>simp only[aA] at h
 case call c=>
  split at h
  ·simp only[Option.map_eq_some_iff] at h;obtain⟨_,_,h⟩:=h;simp at h
  ·rename_i r nm hcb;simp only[Option.map_eq_some_iff,Prod.mk.injEq,gw.invoke.injEq] at h;obtain⟨rs',h1,rfl,rfl⟩:=h;exact⟨c,r,rfl,hcb,h1⟩
  ·exfalso;repeat' (first
    |(simp only[Option.bind_eq_some_iff] at h;obtain⟨_,_,h⟩:=h)
    |(obtain⟨_,_,h2⟩:=bf h;simp at h2;done)
    |(simp at h;done)
    |(split at h))
 case unOp u t x=>
  exfalso;cases u<;>simp only[aA] at h<;>first
   |(obtain⟨_,_,h2⟩:=bf h;simp at h2;done)
   |(simp at h;done)
 case next it s=>
  exfalso;cases s with
  |true=>simp[aA] at h
  |false=>simp only[aA] at h;obtain⟨hq,_⟩:=aQ h;simp at hq
 case makeMap t r=>
  exfalso;cases r with
  |none=>simp only[aA] at h;obtain⟨hq,_⟩:=aQ h;simp at hq
  |some r=>simp[aA] at h
 all_goals exfalso
 all_goals repeat' (first
  |(simp only[Option.bind_eq_some_iff] at h;obtain⟨_,_,h⟩:=h)
  |(simp only[Option.map_eq_some_iff] at h;obtain⟨_,_,h⟩:=h;simp at h;done)
  |(obtain⟨_,_,h2⟩:=bf h;simp at h2;done)
  |(simp at h;done)
  |(split at h))
theorem E5{fv:AV}{args:List AV}{v:AV}(hc:ru P H0 fv args h v h1):um P H0 .call (fv::args) h v h1:=by
 intro o rs DH ρ D w a N env ro n hi he hv next Q hk
 obtain⟨c,f,ho,hcb,Cu⟩:=xx DH;obtain⟨r,rs',rfl,h1,h2⟩:=di Cu;simp only[List.map_cons,List.cons.injEq] at hv;have e1:=aF he h1;have e2:=iq he h2;rw[hv.1] at e1;rw[hv.2] at e2;refine gS DH ?_;have hex:execOp a.eval o=(do let d ←Deferred.ofValue (real ρ fv) (au ρ args).toArray;invoke d.target d.args:Sem Next):=by
  unfold execOp;rw[ho];simp only[resolve,hcb];rw[e1.1,er rfl e2.1]
 rw[hex];exact hc ρ D w hi e1.2 e2.2 o a ro n next Q hk
theorem CI{fv:AV}{args:List AV}{v:AV}(hc:pq P H0 fv args h v h1):mw P H0 .call (fv::args) h v h1:=by
 intro o rs DH ρ D w a N env ro n hi he hv next Q hk
 obtain⟨c,f,ho,hcb,Cu⟩:=xx DH;obtain⟨r,rs',rfl,h1,h2⟩:=di Cu;simp only[List.map_cons,List.cons.injEq] at hv;have e1:=aF he h1;have e2:=iq he h2;rw[hv.1] at e1;rw[hv.2] at e2;refine gS DH ?_;have hex:execOp a.eval o=(do let d ←Deferred.ofValue (real ρ fv) (au ρ args).toArray;invoke d.target d.args:Sem Next):=by
  unfold execOp;rw[ho];simp only[resolve,hcb];rw[e1.1,er rfl e2.1]
 rw[hex];exact hc ρ D w hi e1.2 e2.2 o a ro n next Q hk
theorem B8{o:Op}{rs:List bG}(h:aA P o=some (.panic,rs)):∃x r,o=.panic x∧dh x=some r∧rs=[r]:=by
 cases o<;>simp only[aA] at h
 case panic x=>
  obtain⟨_,h2⟩:=aQ h;obtain⟨r,rs',rfl,h3,h4⟩:=di h2;simp[b8] at h4;subst h4;exact⟨x,r,rfl,h3,rfl⟩
 case unOp u t x=>
  exfalso;cases u<;>simp only[aA] at h<;>first
   |(obtain⟨_,_,h2⟩:=bf h;simp at h2;done)
   |(simp at h;done)
 case next it s=>
  exfalso;cases s with
  |true=>simp[aA] at h
  |false=>simp only[aA] at h;obtain⟨hq,_⟩:=aQ h;simp at hq
 case makeMap t r=>
  exfalso;cases r with
  |none=>simp only[aA] at h;obtain⟨hq,_⟩:=aQ h;simp at hq
  |some r=>simp[aA] at h
 all_goals exfalso
 all_goals repeat' (first
  |(simp only[Option.bind_eq_some_iff] at h;obtain⟨_,_,h⟩:=h)
  |(simp only[Option.map_eq_some_iff] at h;obtain⟨_,_,h⟩:=h;simp at h;done)
  |(obtain⟨_,_,h2⟩:=bf h;simp at h2;done)
  |(simp at h;done)
  |(split at h))
theorem CJ{t:Nat}{x:AV}:mw P H0 .panic [.iface t x] h (.iface t x) h:=by
 intro o rs DH ρ D w a N env ro n hi he hv next Q hk
 obtain⟨y,r,ho,hr,rfl⟩:=B8 DH;simp only[List.map_cons,List.map_nil,List.cons.injEq,and_true] at hv;have e1:=aF he hr;rw[hv] at e1;refine gS DH ?_;have hex:(execOp a.eval o).run P w=.halt (.panic (real ρ (.iface t x))) w:=by
  unfold execOp;rw[ho];simp only[e1.1,real];simp[Instr.panic,Sem.run_bind,Result.andThen]
 rw[hex];exact hk ρ w (by rw[bn];exact hi) (Ext.refl _ _ _ _) (by rw[bn];exact e1.2)
theorem Bl{fs:Nat→Option aC}{ms:Nat→String→Option Nat}(sys:jc P fs ms){name:String}{t f:Nat}{x:AV}{args:List AV}{v:AV}(hm:ms t name=some f)
  (hc:gL P H0 f (x::args) h v h1)(tA:∀(args:Array Value) (w:World),(callFunc f args).run P w=.ok (.enter f args) w):um P H0 (.invoke name) (.iface t x::args) h v h1:=by
 intro o rs DH ρ D w a N env ro n hi he hv next Q hk
 obtain⟨c,r,ho,hcb,Cu⟩:=tR DH;obtain⟨q,rs',rfl,h1,h2⟩:=di Cu;simp only[List.map_cons,List.cons.injEq] at hv;have e1:=aF he h1;have e2:=iq he h2;rw[hv.1] at e1;rw[hv.2] at e2;refine gS DH ?_;have hrun:(execOp a.eval o).run P w=.ok (.enter f (au ρ (x::args)).toArray) w:=by
  unfold execOp;rw[ho];simp only[resolve,hcb];rw[e1.1,er rfl e2.1];simp only[Sem.run_bind,Sem.run_pure,Result.andThen,invoke,real];have hz:(#[Value.iface t (real ρ x)]++(au ρ args).toArray:Array Value)[0]?=some (Value.iface t (real ρ x)):=by simp
  simp only[hz,callMethod];have sR:=sys.wX t name f hm (real ρ x) w;have hx:(#[Value.iface t (real ρ x)]++(au ρ args).toArray:Array Value).extract 1 (#[Value.iface t (real ρ x)]++(au ρ args).toArray:Array Value).size=(au ρ args).toArray:=by
   apply Array.ext';simp
  rw[hx,Sem.run_bind,run_program];simp only[Result.andThen];rw[Sem.run_bind,sR];simp only[Result.andThen,tA]
  congr 2
  simp[au]
 rw[hrun];simp only[AV.aR] at e1;exact yg hc hi (by simp only[bg];exact⟨e1.2,e2.2⟩) hk
theorem zm{fs:Nat→Option aC}{ms:Nat→String→Option Nat}(sys:jc P fs ms){name:String}{t f:Nat}{x:AV}{args:List AV}{v:AV}(hm:ms t name=some f)
  (hc:mI P H0 f (x::args) h v h1)(tA:∀(args:Array Value) (w:World),(callFunc f args).run P w=.ok (.enter f args) w):mw P H0 (.invoke name) (.iface t x::args) h v h1:=by
 intro o rs DH ρ D w a N env ro n hi he hv next Q hk
 obtain⟨c,r,ho,hcb,Cu⟩:=tR DH;obtain⟨q,rs',rfl,h1,h2⟩:=di Cu;simp only[List.map_cons,List.cons.injEq] at hv;have e1:=aF he h1;have e2:=iq he h2;rw[hv.1] at e1;rw[hv.2] at e2;refine gS DH ?_;have hrun:(execOp a.eval o).run P w=.ok (.enter f (au ρ (x::args)).toArray) w:=by
  unfold execOp;rw[ho];simp only[resolve,hcb];rw[e1.1,er rfl e2.1];simp only[Sem.run_bind,Sem.run_pure,Result.andThen,invoke,real];have hz:(#[Value.iface t (real ρ x)]++(au ρ args).toArray:Array Value)[0]?=some (Value.iface t (real ρ x)):=by simp
  simp only[hz,callMethod];have sR:=sys.wX t name f hm (real ρ x) w;have hx:(#[Value.iface t (real ρ x)]++(au ρ args).toArray:Array Value).extract 1 (#[Value.iface t (real ρ x)]++(au ρ args).toArray:Array Value).size=(au ρ args).toArray:=by
   apply Array.ext';simp
  rw[hx,Sem.run_bind,run_program];simp only[Result.andThen];rw[Sem.run_bind,sR];simp only[Result.andThen,tA]
  congr 2
  simp[au]
 rw[hrun];simp only[AV.aR] at e1;exact wk hc hi (by simp only[bg];exact⟨e1.2,e2.2⟩) hk
theorem Ba(hi:Inv P H0 ρ D h w)(o:Obj):Inv P H0 ρ D h (w.alloc o)∧Ext ρ D h w ρ h (w.alloc o):=by
 have hold:∀r,r<w.heap.size→(w.alloc o).heap[r]?=w.heap[r]?:=by
  intro r hr;show(w.heap.push o)[r]?=_;rw[Array.getElem?_push,if_neg (by omega)]
 constructor
 ·refine⟨hi.lt,hi.top,?_,fun b x hd hx=>?_,hi.apart⟩
  ·have:=hi.low;show H0≤(w.heap.push o).size;simp;omega
  ·have hb:=hi.bD b x hd hx;exact bR hb (fun _=>id) (fun _ _=>rfl) (hold _ (gV hb))
 ·refine⟨Nat.le_refl _,fun _ _=>rfl,?_,fun r hr _=>hold r hr,fun _ _ _=>rfl,fun _ _ hb=>⟨hb,id⟩,fun _ g1 g2=>by omega,rfl,rfl,rfl⟩;show w.heap.size≤(w.heap.push o).size;simp
theorem run_getLoop{l:Nat}{r:Loop}(hl:w.heap[l]?=some (.loop r)):(Instr.getLoop l).run P w=.ok r w:=by
 have AT:(getObj l).run P w=.ok (.loop r) w:=by
  unfold getObj;simp only[Sem.run,hl]
 simp[Instr.getLoop,Sem.run_bind,AT,Result.andThen]
theorem nP{l:Nat}{o o':Obj}(hl:w.heap[l]?=some o)(hnc:∀c t f,o≠.cells c t f):(setObj l o').run P w=.ok () (setRow w l o'):=by
 unfold setObj;cases o<;>first|(exact absurd rfl (hnc _ _ _))|(simp only[Sem.run,hl];rfl)
theorem sg(hi:Inv P H0 ρ D h w){L:Nat}{st st':Nat}{cu kE:Option AX}{ps:List Nat}{x y:AC}{r r':Loop}(hd:D L)(hg:h.get L=some (.loop st cu e ps x y))
  (hr:w.heap[(ρ L).bD]?=some (.loop r))(hr':Bd P ρ D st' kE e ps x y r'):
  Inv P H0 ρ D (h.set L (.loop st' kE e ps x y)) (setRow w (ρ L).bD (.loop r'))∧Ext ρ D h w ρ (h.set L (.loop st' kE e ps x y)) (setRow w (ρ L).bD (.loop r')):=by
 have hlt:=(Array.getElem?_eq_some_iff.1 hr).1;have hb:=hi.bD L _ hd hg;refine oZ hi hd (by simp[Heap.wr,hg]) rfl (setRow_size _ _ _) (fun q hq=>by rw[dm,if_neg hq]) rfl rfl rfl ⟨hb.1,r',?_,hr'⟩;rw[dm,if_pos rfl,if_pos hlt]
theorem oO:∀{ps:List Nat} {args:List AV} {e:Env} {tmps:Array Value} {N:Nat},ps.length=args.length→oh N ps=true→tmps.size=N→(∀i,tmps.getD i Go.undef=real ρ (e.get i))→(∀i,(e.get i).aR D)→bg D args→
  bJ ρ D N (fY ps args e) {tmps:=(ps.zip (au ρ args)).foldl (fun tmps p=>tmps.setIfInBounds p.1 p.2) tmps,defers:=[]}
 |[],[],e,tmps,N,_,_,hs,hg,hd,_=>⟨hs,hg,hd⟩
 |[],_::_,_,_,_,hl,_,_,_,_,_=>by simp at hl
 |_::_,[],_,_,_,hl,_,_,_,_,_=>by simp at hl
 |p::ps,v::args,e,tmps,N,hl,hb,hs,hg,hd,ha=>by
  simp only[oh,Bool.and_eq_true] at hb;simp only[bg] at ha;have hput:=bJ.put (d:=some p) (v:=v) (a:=⟨tmps,[]⟩) (e:=e) (N:=N) ⟨hs,hg,hd⟩ hb.1 ha.1;simp only[fY,au,List.zip_cons_cons,List.foldl_cons];exact oO (by simpa using hl) hb.2 hput.size hput.get hput.dom ha.2
theorem Fi{L:Nat}{args:List AV}{cu cm oN:Option AX}{ps:List Nat}{x y:AC}{e2 e4:Env}{h4:Heap}{ax:AX}{It:Nat}
  (hg:h.get L=some (.loop 0 cu e ps x y))(hlen:args.length=ps.length)(wQ:bF P H0 true x (fY ps args e) h .normal e2 h2)(ni:h2.get L=some (.loop 0 cm e ps x y))
  (BT:bF P H0 true y e2 (h2.set L (.loop 1 cm e ps x y)) ax e4 h4)(hnp:∀v,ax≠.panic v)(Oe:h4.get L=some (.loop It oN e ps x y)):
  ru P H0 (.yield L) args h (.bool ax.bI) (h4.set L (.loop (bif ax.bI then 0 else 2) (dH ax) e ps x y)):=by
 intro ρ D w hi hf hd o a ro n next Q hk
 simp only[AV.aR] at hf;obtain⟨_,r,hr,hst,hpd,UE,vh,hps,hca,hcb,MG,MH,Mk⟩:=hi.bD L _ hf hg;have hsz:args.length=r.params.size:=by rw[hlen,←hps];simp
 have hrun:((do let d ←Deferred.ofValue (real ρ (.yield L)) (au ρ args).toArray;invoke d.target d.args:Sem Next).run P w)=
   .ok (.round (ρ L).bD r.fn ((ps.zip (au ρ args)).foldl (fun tmps p=>tmps.setIfInBounds p.1 p.2) r.tmps) r.assign r.body) w:=by
  simp only[real,Deferred.ofValue,Sem.run_bind,Sem.run_pure,Result.andThen,invoke,Instr.yield,run_getLoop hr];rw[if_neg (by simp[aL,hsz])];simp only[Sem.run_pure]
  congr 2
  rw[←hps];rw[←Array.foldl_toList];simp
 rw[hrun];refine⟨fun hh=>by simp[FW,Fence.wide] at hh,?_⟩;refine roundIn_of_wpIn trivial ?_;have Ms:=oO (ρ:=ρ) (D:=D) (ps:=ps) (args:=args) (e:=e) (tmps:=r.tmps) hlen.symm Mk rfl UE vh hd;have hm0:jm [] w.heap.size ρ D h w ([]:List Deferred):=⟨[],rfl,List.nodup_nil,fun r hr=>by simp at hr⟩;refine Code.wpIn_mono ?_ (wQ r.assign hca r.tmps.size MG (some (ρ L).bD) rfl ρ D w _ w.heap.size (n-1) [] hi Ms hm0 (Nat.le_refl _));rintro ex a1 w1 ⟨pn,hex,i1,x1,EG,m1,_⟩;have hex:ex=.normal:=hex;subst hex;have zZ:grow D h.next h2.next L:=.inl hf;have ur:=x1.bx L hf;obtain⟨_,r1,uB,MN,MI,MT,Mu,MJ,Mm,Mp,GS,GV,GD⟩:=i1.bD L _ zZ ni;have xO:=sg i1 zZ ni uB (st':=1) (kE:=cm) (r':={r1 with state:=.busy}) ⟨rfl,MI,MT,Mu,MJ,Mm,Mp,GS,GV,GD⟩;refine⟨setRow w1 (pn L).bD (.loop {r1 with state:=.busy}),?_,?_⟩
 ·have He:r1.state=.ready:=MN;rw[←ur];simp only[Instr.beginRound,Sem.run_bind,run_getLoop uB,Result.andThen,nP uB (fun _ _ _=>by simp),He,Sem.run_pure]
 ·have Lf:=m1.ext i1.lt xO.2;rw[show(h2.set L (.loop 1 cm e ps x y)).next=h2.next from rfl,bn] at Lf;have hi1:=xO.1;refine Code.wpIn_mono ?_ (BT r.body hcb r.tmps.size MH (some (ρ L).bD) rfl pn _ _ a1 w.heap.size (n-1) [] hi1 EG Lf (by rw[setRow_size];exact x1.size));rintro ex a2 w2 ⟨iY,hex,i2,x2,KU,m2,_⟩;have yT:grow (grow D h.next h2.next) (h2.set L (.loop 1 cm e ps x y)).next h4.next L:=.inl zZ
  have TG:=x2.bx L zZ;obtain⟨_,r2,xN,Qw,G1,MU,Mv,MK,Mn,Mq,GU,GW,GF⟩:=i2.bD L _ yT Oe;have yW:(iY L).bD=(ρ L).bD:=by rw[TG,ur]
  have fin:∀(jump:Option Code),(match dH ax with
    |none=>jump=none
    |some (.exit id)=>jump=some (.exit id)
    |some .ret=>jump=some .ret
    |_=>False)→jump.isNone=ax.bI→∃v w',(Instr.endRound (ρ L).bD jump).run P w2=.ok v w'∧next (a.put o.dst v) w':=by
   intro jump hj hjn;have A3:=sg i2 yT Oe xN (st':=bif ax.bI then 0 else 2) (kE:=dH ax) (r':={r2 with state:=if jump.isNone then .ready else .done,pending:=jump})
    ⟨by rw[hjn];cases ax.bI<;>rfl,hj,MU,Mv,MK,Mn,Mq,GU,GW,GF⟩
   refine⟨_,setRow w2 (iY L).bD (.loop {r2 with state:=if jump.isNone then .ready else .done,pending:=jump}),?_,hk iY _ ?_ ?_ (by simp[AV.aR])⟩
   ·rw[←yW];simp only[Instr.endRound,Sem.run_bind,run_getLoop xN,Result.andThen,nP xN (fun _ _ _=>by simp),Sem.run_pure,hjn];rfl
   ·have:=A3.1;have g1:=x1.next;have g2:=x2.next;rw[show(h2.set L (.loop 1 cm e ps x y)).next=h2.next from rfl] at g2 this;rw[dD D g1 g2] at this;exact this
   ·have xb:Ext pn (grow D h.next h2.next) h2 w1 iY h4 w2:=Ext.trans i1.lt xO.2 (by
     rw[show(h2.set L (.loop 1 cm e ps x y)).next=h2.next from rfl,bn];exact x2)
    have xc:=Ext.trans i1.lt xb A3.2;exact Ext.trans hi.lt x1 xc
  cases ax with
  |normal=>
   have hex:ex=.normal:=hex;subst hex;exact fin none rfl rfl
  |ret=>
   have hex:ex=.ret:=hex;subst hex;exact fin (some .ret) rfl rfl
  |exit id=>
   have hex:ex=.exit id:=hex;subst hex;exact fin (some (.exit id)) rfl rfl
  |panic v=>exact absurd rfl (hnp v)
end
end Ads
end Go.Proofs.Ytenafeojcgmnhaa
