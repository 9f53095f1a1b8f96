/-
  What big steps mean in the model: calls of values and of methods; ranges over functions.
-/
import Derived.Test.YtecdcefacdodgaaAdsCall
import Derived.RangeFuncCalls
set_option linter.unusedSimpArgs false
set_option linter.unusedVariables false
namespace Go.Proofs.Ytecdcefacdodgaa
namespace Ads
section
variable {P:Program} {H0 W0:Nat} {ρ ρ':cn} {D D':Dom} {h h' h1 h2:Heap} {w w':World} {N n:Nat} {env e e':Env} {a:Act} {ro:Option Nat} {rd:Bool}
theorem vt{f:Nat}{args:Array Value}{R:Ending→World→Prop}(hc:CallsIn Fence.wide n P f args w R):CallsIn (FW ro) n P f args w R:=by
 cases ro with
 |none=>exact hc
 |some l=>exact CallsIn.inRound l hc
theorem zc{o:Oper}{f:Nat}{args:List AV}{v:AV}{next:Act→World→Prop}{Q:Exit→Act→World→Prop}(hc:fF P H0 f args h v h1)(hi:Inv P H0 ρ D h w)(hd:aW D args)
  (hk:∀ρ' w',Inv P H0 ρ' (grow D h.next h1.next) h1 w'→Ext ρ D h w ρ' h1 w'→v.aP (grow D h.next h1.next)→next (a.put o.dst (real ρ' v)) w'):
  o.uponIn (FW ro) n P a next Q (.ok (.enter f (aa ρ args).toArray) w):=by
 refine⟨fun hh=>by simp[FW,Fence.wide] at hh,?_⟩;refine CallsIn.mono (vt (hc ρ D w (n-1) hi hd)) ?_;rintro e w' ⟨ρ',rfl,g1,g2,g3⟩;exact hk ρ' w' g1 g2 g3
theorem CX{f:Nat}{first aF args:List AV}{v:AV}(hc:fF P H0 f (first++(args++aF)) h v h1)(tH:∀(args:Array Value) (w:World),(callFunc f args).run P w=.ok (.enter f args) w):
  rM P H0 (.func (.func f) first aF) args h v h1:=by
 intro ρ D w hi hf hd o a ro n next Q hk
 simp only[AV.aP] at hf;have hrun:((do let d ←Deferred.ofValue (real ρ (.func (.func f) first aF)) (aa ρ args).toArray;invoke d.target d.args:Sem Next).run P w)=.ok (.enter f (aa ρ (first++(args++aF))).toArray) w:=by
  simp only[real,Deferred.ofValue,Sem.run_bind,Sem.run_pure,Result.andThen,invoke,tH]
  congr 2
  simp[gF]
 rw[hrun];have hda:aW D (first++(args++aF)):=by
  rw[aL];intro x hx;rcases List.mem_append.1 hx with hx|hx
  ·exact(aL D _).1 hf.2.1 x hx
  ·rcases List.mem_append.1 hx with hx|hx
   ·exact(aL D _).1 hd x hx
   ·exact(aL D _).1 hf.2.2 x hx
 exact zc hc hi hda hk
theorem xd{o:Oper}{f:Nat}{args:List AV}{v:AV}{next:Act→World→Prop}{Q:Exit→Act→World→Prop}(hc:mQ P H0 f args h v h1)(hi:Inv P H0 ρ D h w)(hd:aW D args)
  (hk:∀ρ' w',Inv P H0 ρ' (grow D h.next h1.next) h1 w'→Ext ρ D h w ρ' h1 w'→v.aP (grow D h.next h1.next)→Q (.panic [{v:=real ρ' v,recovered:=false}]) a w'):
  o.uponIn (FW ro) n P a next Q (.ok (.enter f (aa ρ args).toArray) w):=by
 refine⟨fun hh=>by simp[FW,Fence.wide] at hh,?_⟩;refine CallsIn.mono (vt (hc ρ D w (n-1) hi hd)) ?_;rintro e w' ⟨ρ',rfl,g1,g2,g3⟩;exact hk ρ' w' g1 g2 g3
theorem A5{f:Nat}{first aF args:List AV}{v:AV}(hc:mQ P H0 f (first++(args++aF)) h v h1)(tH:∀(args:Array Value) (w:World),(callFunc f args).run P w=.ok (.enter f args) w):
  pQ P H0 (.func (.func f) first aF) args h v h1:=by
 intro ρ D w hi hf hd o a ro n next Q hk
 simp only[AV.aP] at hf;have hrun:((do let d ←Deferred.ofValue (real ρ (.func (.func f) first aF)) (aa ρ args).toArray;invoke d.target d.args:Sem Next).run P w)=.ok (.enter f (aa ρ (first++(args++aF))).toArray) w:=by
  simp only[real,Deferred.ofValue,Sem.run_bind,Sem.run_pure,Result.andThen,invoke,tH]
  congr 2
  simp[gF]
 rw[hrun];have hda:aW D (first++(args++aF)):=by
  rw[aL];intro x hx;rcases List.mem_append.1 hx with hx|hx
  ·exact(aL D _).1 hf.2.1 x hx
  ·rcases List.mem_append.1 hx with hx|hx
   ·exact(aL D _).1 hd x hx
   ·exact(aL D _).1 hf.2.2 x hx
 exact xd hc hi hda hk
theorem yj{o:Op}{rs:List bA}(h:an P o=some (.call,rs)):∃c f,o=.call c∧c.callee=.value f∧bT (f::c.args.toList)=some rs:=by
 cases o<;>simp only[an] at h
 case call c=>
  split at h
  ·rename_i f hcb;simp only[Option.map_eq_some_iff,Prod.mk.injEq] at h;obtain⟨rs',h1,_,rfl⟩:=h;exact⟨c,f,rfl,hcb,h1⟩
  ·simp only[Option.map_eq_some_iff] at h;obtain⟨_,_,h⟩:=h;simp at h
  ·exfalso;repeat' (first
    |(simp only[Option.bind_eq_some_iff] at h;obtain⟨_,_,h⟩:=h)
    |(obtain⟨_,_,h2⟩:=aU h;simp at h2;done)
    |(simp at h;done)
    |(split at h))
 case unOp u t x=>
  exfalso;cases u<;>simp only[an] at h<;>first
   |(obtain⟨_,_,h2⟩:=aU h;simp at h2;done)
   |(simp at h;done)
 case next it s=>
  exfalso;cases s with
  |true=>simp[an] at h
  |false=>simp only[an] at h;obtain⟨hq,_⟩:=aN h;simp at hq
 case makeMap t r=>
  exfalso;cases r with
  |none=>simp only[an] at h;obtain⟨hq,_⟩:=aN h;simp at hq
  |some r=>simp[an] at h
 all_goals exfalso
 all_goals repeat' (first
  |(simp only[Option.bind_eq_some_iff] at h;obtain⟨_,_,h⟩:=h)
  |(simp only[Option.map_eq_some_iff] at h;obtain⟨_,_,h⟩:=h;simp at h;done)
  |(obtain⟨_,_,h2⟩:=aU h;simp at h2;done)
  |(simp at h;done)
  |(split at h))
theorem ua{o:Op}{rs:List bA}{name:String}(h:an P o=some (.invoke name,rs)):∃c r,o=.call c∧c.callee=.invoke r name∧bT (r::c.args.toList)=some rs:=by
 cases o<;>simp only[an] at h
 case call c=>
  split at h
  ·simp only[Option.map_eq_some_iff] at h;obtain⟨_,_,h⟩:=h;simp at h
  ·rename_i r nm hcb;simp only[Option.map_eq_some_iff,Prod.mk.injEq,fh.invoke.injEq] at h;obtain⟨rs',h1,rfl,rfl⟩:=h;exact⟨c,r,rfl,hcb,h1⟩
  ·exfalso;repeat' (first
    |(simp only[Option.bind_eq_some_iff] at h;obtain⟨_,_,h⟩:=h)
    |(obtain⟨_,_,h2⟩:=aU h;simp at h2;done)
    |(simp at h;done)
    |(split at h))
 case unOp u t x=>
  exfalso;cases u<;>simp only[an] at h<;>first
   |(obtain⟨_,_,h2⟩:=aU h;simp at h2;done)
   |(simp at h;done)
 case next it s=>
  exfalso;cases s with
  |true=>simp[an] at h
  |false=>simp only[an] at h;obtain⟨hq,_⟩:=aN h;simp at hq
 case makeMap t r=>
  exfalso;cases r with
  |none=>simp only[an] at h;obtain⟨hq,_⟩:=aN h;simp at hq
  |some r=>simp[an] at h
 all_goals exfalso
 all_goals repeat' (first
  |(simp only[Option.bind_eq_some_iff] at h;obtain⟨_,_,h⟩:=h)
  |(simp only[Option.map_eq_some_iff] at h;obtain⟨_,_,h⟩:=h;simp at h;done)
  |(obtain⟨_,_,h2⟩:=aU h;simp at h2;done)
  |(simp at h;done)
  |(split at h))
theorem Gk{fv:AV}{args:List AV}{v:AV}(hc:rM P H0 fv args h v h1):uL P H0 .call (fv::args) h v h1:=by
 intro o rs EU ρ D w a N env ro n hi he hv next Q hk
 obtain⟨c,f,ho,hcb,DD⟩:=yj EU;obtain⟨r,rs',rfl,h1,h2⟩:=cX DD;simp only[List.map_cons,List.cons.injEq] at hv;have e1:=aD he h1;have e2:=gw he h2;rw[hv.1] at e1;rw[hv.2] at e2;refine fM EU ?_;have hex:execOp a.eval o=(do let d ←Deferred.ofValue (real ρ fv) (aa ρ args).toArray;invoke d.target d.args:Sem Next):=by
  unfold execOp;rw[ho];simp only[resolve,hcb];rw[e1.1,dN rfl e2.1]
 rw[hex];exact hc ρ D w hi e1.2 e2.2 o a ro n next Q hk
theorem DN{fv:AV}{args:List AV}{v:AV}(hc:pQ P H0 fv args h v h1):mF P H0 .call (fv::args) h v h1:=by
 intro o rs EU ρ D w a N env ro n hi he hv next Q hk
 obtain⟨c,f,ho,hcb,DD⟩:=yj EU;obtain⟨r,rs',rfl,h1,h2⟩:=cX DD;simp only[List.map_cons,List.cons.injEq] at hv;have e1:=aD he h1;have e2:=gw he h2;rw[hv.1] at e1;rw[hv.2] at e2;refine fM EU ?_;have hex:execOp a.eval o=(do let d ←Deferred.ofValue (real ρ fv) (aa ρ args).toArray;invoke d.target d.args:Sem Next):=by
  unfold execOp;rw[ho];simp only[resolve,hcb];rw[e1.1,dN rfl e2.1]
 rw[hex];exact hc ρ D w hi e1.2 e2.2 o a ro n next Q hk
theorem C0{o:Op}{rs:List bA}(h:an P o=some (.panic,rs)):∃x r,o=.panic x∧cW x=some r∧rs=[r]:=by
 cases o<;>simp only[an] at h
 case panic x=>
  obtain⟨_,h2⟩:=aN h;obtain⟨r,rs',rfl,h3,h4⟩:=cX h2;simp[bT] at h4;subst h4;exact⟨x,r,rfl,h3,rfl⟩
 case unOp u t x=>
  exfalso;cases u<;>simp only[an] at h<;>first
   |(obtain⟨_,_,h2⟩:=aU h;simp at h2;done)
   |(simp at h;done)
 case next it s=>
  exfalso;cases s with
  |true=>simp[an] at h
  |false=>simp only[an] at h;obtain⟨hq,_⟩:=aN h;simp at hq
 case makeMap t r=>
  exfalso;cases r with
  |none=>simp only[an] at h;obtain⟨hq,_⟩:=aN h;simp at hq
  |some r=>simp[an] at h
 all_goals exfalso
 all_goals repeat' (first
  |(simp only[Option.bind_eq_some_iff] at h;obtain⟨_,_,h⟩:=h)
  |(simp only[Option.map_eq_some_iff] at h;obtain⟨_,_,h⟩:=h;simp at h;done)
  |(obtain⟨_,_,h2⟩:=aU h;simp at h2;done)
  |(simp at h;done)
  |(split at h))
theorem DO{t:Nat}{x:AV}:mF P H0 .panic [.iface t x] h (.iface t x) h:=by
 intro o rs EU ρ D w a N env ro n hi he hv next Q hk
 obtain⟨y,r,ho,hr,rfl⟩:=C0 EU;simp only[List.map_cons,List.map_nil,List.cons.injEq,and_true] at hv;have e1:=aD he hr;rw[hv] at e1;refine fM EU ?_;have hex:(execOp a.eval o).run P w=.halt (.panic (real ρ (.iface t x))) w:=by
  unfold execOp;rw[ho];simp only[e1.1,real];simp[Instr.panic,Sem.run_bind,Result.andThen]
 rw[hex];exact hk ρ w (by rw[aY];exact hi) (Ext.refl _ _ _ _) (by rw[aY];exact e1.2)
theorem B3{fs:Nat→Option az}{ms:Nat→String→Option Nat}(sys:kZ P fs ms){name:String}{t f:Nat}{x:AV}{args:List AV}{v:AV}(hm:ms t name=some f)
  (hc:fF P H0 f (x::args) h v h1)(tH:∀(args:Array Value) (w:World),(callFunc f args).run P w=.ok (.enter f args) w):uL P H0 (.invoke name) (.iface t x::args) h v h1:=by
 intro o rs EU ρ D w a N env ro n hi he hv next Q hk
 obtain⟨c,r,ho,hcb,DD⟩:=ua EU;obtain⟨q,rs',rfl,h1,h2⟩:=cX DD;simp only[List.map_cons,List.cons.injEq] at hv;have e1:=aD he h1;have e2:=gw he h2;rw[hv.1] at e1;rw[hv.2] at e2;refine fM EU ?_;have hrun:(execOp a.eval o).run P w=.ok (.enter f (aa ρ (x::args)).toArray) w:=by
  unfold execOp;rw[ho];simp only[resolve,hcb];rw[e1.1,dN rfl e2.1];simp only[Sem.run_bind,Sem.run_pure,Result.andThen,invoke,real];have hz:(#[Value.iface t (real ρ x)]++(aa ρ args).toArray:Array Value)[0]?=some (Value.iface t (real ρ x)):=by simp
  simp only[hz,callMethod];have sS:=sys.Jl t name f hm (real ρ x) w;have hx:(#[Value.iface t (real ρ x)]++(aa ρ args).toArray:Array Value).extract 1 (#[Value.iface t (real ρ x)]++(aa ρ args).toArray:Array Value).size=(aa ρ args).toArray:=by
   apply Array.ext';simp
  rw[hx,Sem.run_bind,run_program];simp only[Result.andThen];rw[Sem.run_bind,sS];simp only[Result.andThen,tH]
  congr 2
  simp[aa]
 rw[hrun];simp only[AV.aP] at e1;exact zc hc hi (by simp only[aW];exact⟨e1.2,e2.2⟩) hk
theorem Ai{fs:Nat→Option az}{ms:Nat→String→Option Nat}(sys:kZ P fs ms){name:String}{t f:Nat}{x:AV}{args:List AV}{v:AV}(hm:ms t name=some f)
  (hc:mQ P H0 f (x::args) h v h1)(tH:∀(args:Array Value) (w:World),(callFunc f args).run P w=.ok (.enter f args) w):mF P H0 (.invoke name) (.iface t x::args) h v h1:=by
 intro o rs EU ρ D w a N env ro n hi he hv next Q hk
 obtain⟨c,r,ho,hcb,DD⟩:=ua EU;obtain⟨q,rs',rfl,h1,h2⟩:=cX DD;simp only[List.map_cons,List.cons.injEq] at hv;have e1:=aD he h1;have e2:=gw he h2;rw[hv.1] at e1;rw[hv.2] at e2;refine fM EU ?_;have hrun:(execOp a.eval o).run P w=.ok (.enter f (aa ρ (x::args)).toArray) w:=by
  unfold execOp;rw[ho];simp only[resolve,hcb];rw[e1.1,dN rfl e2.1];simp only[Sem.run_bind,Sem.run_pure,Result.andThen,invoke,real];have hz:(#[Value.iface t (real ρ x)]++(aa ρ args).toArray:Array Value)[0]?=some (Value.iface t (real ρ x)):=by simp
  simp only[hz,callMethod];have sS:=sys.Jl t name f hm (real ρ x) w;have hx:(#[Value.iface t (real ρ x)]++(aa ρ args).toArray:Array Value).extract 1 (#[Value.iface t (real ρ x)]++(aa ρ args).toArray:Array Value).size=(aa ρ args).toArray:=by
   apply Array.ext';simp
  rw[hx,Sem.run_bind,run_program];simp only[Result.andThen];rw[Sem.run_bind,sS];simp only[Result.andThen,tH]
  congr 2
  simp[aa]
 rw[hrun];simp only[AV.aP] at e1;exact xd hc hi (by simp only[aW];exact⟨e1.2,e2.2⟩) hk
theorem BU(hi:Inv P H0 ρ D h w)(o:Obj):Inv P H0 ρ D h (w.alloc o)∧Ext ρ D h w ρ h (w.alloc o):=by
 have hold:∀r,r<w.heap.size→(w.alloc o).heap[r]?=w.heap[r]?:=by
  intro r hr;show(w.heap.push o)[r]?=_;rw[Array.getElem?_push,if_neg (by omega)]
 constructor
 ·refine⟨hi.lt,hi.top,?_,fun b x hd hx=>?_,hi.apart⟩
  ·have:=hi.low;show H0≤(w.heap.push o).size;simp;omega
  ·have hb:=hi.bB b x hd hx;exact bG hb (fun _=>id) (fun _ _=>rfl) (hold _ (fX hb))
 ·refine⟨Nat.le_refl _,fun _ _=>rfl,?_,fun r hr _=>hold r hr,fun _ _ _=>rfl,fun _ _ hb=>⟨hb,id⟩,fun _ g1 g2=>by omega,rfl,rfl,rfl⟩;show w.heap.size≤(w.heap.push o).size;simp
theorem run_getLoop{l:Nat}{r:Loop}(hl:w.heap[l]?=some (.loop r)):(Instr.getLoop l).run P w=.ok r w:=by
 have z5:(getObj l).run P w=.ok (.loop r) w:=by
  unfold getObj;simp only[Sem.run,hl]
 simp[Instr.getLoop,Sem.run_bind,z5,Result.andThen]
theorem nT{l:Nat}{o o':Obj}(hl:w.heap[l]?=some o)(hnc:∀c t f,o≠.cells c t f):(setObj l o').run P w=.ok () (setRow w l o'):=by
 unfold setObj;cases o<;>first|(exact absurd rfl (hnc _ _ _))|(simp only[Sem.run,hl];rfl)
theorem sj(hi:Inv P H0 ρ D h w){L:Nat}{st st':Nat}{bD ku:Option AX}{ps:List Nat}{x y:AC}{r r':Loop}(hd:D L)(hg:h.get L=some (.loop st bD e ps x y))
  (hr:w.heap[(ρ L).bB]?=some (.loop r))(hr':BX P ρ D st' ku e ps x y r'):
  Inv P H0 ρ D (h.set L (.loop st' ku e ps x y)) (setRow w (ρ L).bB (.loop r'))∧Ext ρ D h w ρ (h.set L (.loop st' ku e ps x y)) (setRow w (ρ L).bB (.loop r')):=by
 have hlt:=(Array.getElem?_eq_some_iff.1 hr).1;have hb:=hi.bB L _ hd hg;refine pJ hi hd (by simp[Heap.wr,hg]) rfl (setRow_size _ _ _) (fun q hq=>by rw[cY,if_neg hq]) rfl rfl rfl ⟨hb.1,r',?_,hr'⟩;rw[cY,if_pos rfl,if_pos hlt]
theorem o8:∀{ps:List Nat} {args:List AV} {e:Env} {tmps:Array Value} {N:Nat},ps.length=args.length→oA N ps=true→tmps.size=N→(∀i,tmps.getD i Go.undef=real ρ (e.get i))→(∀i,(e.get i).aP D)→aW D args→
  bz ρ D N (eX ps args e) {tmps:=(ps.zip (aa ρ args)).foldl (fun tmps p=>tmps.setIfInBounds p.1 p.2) tmps,defers:=[]}
 |[],[],e,tmps,N,_,_,hs,hg,hd,_=>⟨hs,hg,hd⟩
 |[],_::_,_,_,_,hl,_,_,_,_,_=>by simp at hl
 |_::_,[],_,_,_,hl,_,_,_,_,_=>by simp at hl
 |p::ps,v::args,e,tmps,N,hl,hb,hs,hg,hd,ha=>by
  simp only[oA,Bool.and_eq_true] at hb;simp only[aW] at ha;have hput:=bz.put (d:=some p) (v:=v) (a:=⟨tmps,[]⟩) (e:=e) (N:=N) ⟨hs,hg,hd⟩ hb.1 ha.1;simp only[eX,aa,List.zip_cons_cons,List.foldl_cons];exact o8 (by simpa using hl) hb.2 hput.size hput.get hput.dom ha.2
theorem Gz{L:Nat}{args:List AV}{bD bZ o7:Option AX}{ps:List Nat}{x y:AC}{e2 e4:Env}{h4:Heap}{ax:AX}{J8:Nat}
  (hg:h.get L=some (.loop 0 bD e ps x y))(hlen:args.length=ps.length)(AF:bu P H0 true x (eX ps args e) h .normal e2 h2)(BD:h2.get L=some (.loop 0 bZ e ps x y))
  (Kz:bu P H0 true y e2 (h2.set L (.loop 1 bZ e ps x y)) ax e4 h4)(hnp:∀v,ax≠.panic v)(Qq:h4.get L=some (.loop J8 o7 e ps x y)):
  rM P H0 (.yield L) args h (.bool ax.bx) (h4.set L (.loop (bif ax.bx then 0 else 2) (dn ax) e ps x y)):=by
 intro ρ D w hi hf hd o a ro n next Q hk
 simp only[AV.aP] at hf;obtain⟨_,r,hr,hst,hpd,Wp,vO,hps,hca,hcb,OX,OY,OA⟩:=hi.bB L _ hf hg;have hsz:args.length=r.params.size:=by rw[hlen,←hps];simp
 have hrun:((do let d ←Deferred.ofValue (real ρ (.yield L)) (aa ρ args).toArray;invoke d.target d.args:Sem Next).run P w)=
   .ok (.round (ρ L).bB r.fn ((ps.zip (aa ρ args)).foldl (fun tmps p=>tmps.setIfInBounds p.1 p.2) r.tmps) r.assign r.body) w:=by
  simp only[real,Deferred.ofValue,Sem.run_bind,Sem.run_pure,Result.andThen,invoke,Instr.yield,run_getLoop hr];rw[if_neg (by simp[aK,hsz])];simp only[Sem.run_pure]
  congr 2
  rw[←hps];rw[←Array.foldl_toList];simp
 rw[hrun];refine⟨fun hh=>by simp[FW,Fence.wide] at hh,?_⟩;refine roundIn_of_wpIn trivial ?_;have Dw:=o8 (ρ:=ρ) (D:=D) (ps:=ps) (args:=args) (e:=e) (tmps:=r.tmps) hlen.symm OA rfl Wp vO hd;have hm0:iG [] w.heap.size ρ D h w ([]:List Deferred):=⟨[],rfl,List.nodup_nil,fun r hr=>by simp at hr⟩;refine Code.wpIn_mono ?_ (AF r.assign hca r.tmps.size OX (some (ρ L).bB) rfl ρ D w _ w.heap.size (n-1) [] hi Dw hm0 (Nat.le_refl _));rintro ex a1 w1 ⟨pP,hex,i1,x1,FR,m1,_⟩;have hex:ex=.normal:=hex;subst hex;have GU:grow D h.next h2.next L:=.inl hf;have uO:=x1.bp L hf;obtain⟨_,r1,CJ,O6,OZ,Pc,ON,O1,OD,OG,ID,IF,Io⟩:=i1.bB L _ GU BD;have yK:=sj i1 GU BD CJ (st':=1) (ku:=bZ) (r':={r1 with state:=.busy}) ⟨rfl,OZ,Pc,ON,O1,OD,OG,ID,IF,Io⟩;refine⟨setRow w1 (pP L).bB (.loop {r1 with state:=.busy}),?_,?_⟩
 ·have IW:r1.state=.ready:=O6;rw[←uO];simp only[Instr.beginRound,Sem.run_bind,run_getLoop CJ,Result.andThen,nT CJ (fun _ _ _=>by simp),IW,Sem.run_pure]
 ·have RV:=m1.ext i1.lt yK.2;rw[show(h2.set L (.loop 1 bZ e ps x y)).next=h2.next from rfl,aY] at RV;have hi1:=yK.1;refine Code.wpIn_mono ?_ (Kz r.body hcb r.tmps.size OY (some (ρ L).bB) rfl pP _ _ a1 w.heap.size (n-1) [] hi1 FR RV (by rw[setRow_size];exact x1.size));rintro ex a2 w2 ⟨ir,hex,i2,x2,M7,m2,_⟩;have Ox:grow (grow D h.next h2.next) (h2.set L (.loop 1 bZ e ps x y)).next h4.next L:=.inl GU
  have Vo:=x2.bp L GU;obtain⟨_,r2,CK,Se,IM,Pd,OO,O2,OE,OH,IE,IG,Ip⟩:=i2.bB L _ Ox Qq;have zY:(ir L).bB=(ρ L).bB:=by rw[Vo,uO]
  have fin:∀(jump:Option Code),(match dn ax with
    |none=>jump=none
    |some (.exit id)=>jump=some (.exit id)
    |some .ret=>jump=some .ret
    |_=>False)→jump.isNone=ax.bx→∃v w',(Instr.endRound (ρ L).bB jump).run P w2=.ok v w'∧next (a.put o.dst v) w':=by
   intro jump hj hjn;have BK:=sj i2 Ox Qq CK (st':=bif ax.bx then 0 else 2) (ku:=dn ax) (r':={r2 with state:=if jump.isNone then .ready else .done,pending:=jump})
    ⟨by rw[hjn];cases ax.bx<;>rfl,hj,Pd,OO,O2,OE,OH,IE,IG,Ip⟩
   refine⟨_,setRow w2 (ir L).bB (.loop {r2 with state:=if jump.isNone then .ready else .done,pending:=jump}),?_,hk ir _ ?_ ?_ (by simp[AV.aP])⟩
   ·rw[←zY];simp only[Instr.endRound,Sem.run_bind,run_getLoop CK,Result.andThen,nT CK (fun _ _ _=>by simp),Sem.run_pure,hjn];rfl
   ·have:=BK.1;have g1:=x1.next;have g2:=x2.next;rw[show(h2.set L (.loop 1 bZ e ps x y)).next=h2.next from rfl] at g2 this;rw[dh D g1 g2] at this;exact this
   ·have xb:Ext pP (grow D h.next h2.next) h2 w1 ir h4 w2:=Ext.trans i1.lt yK.2 (by
     rw[show(h2.set L (.loop 1 bZ e ps x y)).next=h2.next from rfl,aY];exact x2)
    have xc:=Ext.trans i1.lt xb BK.2;exact Ext.trans hi.lt x1 xc
  cases ax with
  |normal=>
   have hex:ex=.normal:=hex;subst hex;exact fin none rfl rfl
  |ret=>
   have hex:ex=.ret:=hex;subst hex;exact fin (some .ret) rfl rfl
  |exit id=>
   have hex:ex=.exit id:=hex;subst hex;exact fin (some (.exit id)) rfl rfl
  |panic v=>exact absurd rfl (hnp v)
end
end Ads
end Go.Proofs.Ytecdcefacdodgaa
