/-
  What a law that returns true of all values of its arguments' types is, as the rows ask it.
-/
import Derived.Test.YtmnolnoeibhjgaaGreatVsTop
import Derived.WideKeyArgs
import Derived.OpenShut
import Derived.Below
set_option linter.unusedVariables false
set_option linter.unusedSimpArgs false
namespace Go.Proofs.YtmnolnoeibhjgaaGreat
namespace Ads
open Go.ChangeShapes Go.WideShapes Go.ChangeAt Go.RowKit
section
variable {P:Program} {H:Type} {enc:TypeId×Value→H} {W W':World}
theorem Kept.same(k:Kept W W'){p:MemPlace}(hp:p.block<W.heap.size):W.sameAt W' p:=by
 cases p with
 |cell b off=>show W'.cell? _=W.cell? _;simp only[World.cell?];rw[k.old b hp]
 |map b=>exact k.old b hp
theorem Kept.but(k:Kept W W')(may:MemPlace→Prop):W.keptBut W' may:=by
 refine⟨k.os,k.output,fun i hi=>?_⟩;rw[k.old i hi];cases h:W.heap[i]? with
 |none=>simp
 |some o=>cases o<;>simp
theorem qL(hl:laidOutB P=true):∀(ts:List TypeId) (vs:List Value) (ds:List (DataW H)) (ps:List MemPlace),DataW.TrodAll enc P W 0 (fun _=>true) true ts vs ds ps→(∀t,t∈ts→P.readableRec t=true∧t<P.types.size)→
  (∀p,p∈ps→W.sameAt W' p)→∀sp:Nat→Bool,(∀p,p∈ps→sp p.block=true)→DataW.TrodAll enc P W' 0 sp true ts vs ds ps
 |[],[],[],ps,h,_,_,sp,_=>h
 |t::ts,v::vs,d::ds,ps,⟨p,q,h1,h2,he⟩,hr,hs,sp,hsp=>by
  refine⟨p,q,WideElems.Trod_stays hl (hr t List.mem_cons_self).1 (hr t List.mem_cons_self).2 h1 (fun x hx=>hs x (by rw[he];exact List.mem_append_left _ hx)) (fun x hx=>hsp x (by rw[he];exact List.mem_append_left _ hx)),?_,he⟩;exact qL hl ts vs ds q h2 (fun t ht=>hr t (List.mem_cons_of_mem _ ht)) (fun x hx=>hs x (by rw[he];exact List.mem_append_right _ hx)) sp (fun x hx=>hsp x (by rw[he];exact List.mem_append_right _ hx))
 |[],_::_,_,_,h,_,_,_,_=>by simp[DataW.TrodAll] at h
 |[],[],_::_,_,h,_,_,_,_=>by simp[DataW.TrodAll] at h
 |_::_,[],_,_,h,_,_,_,_=>by simp[DataW.TrodAll] at h
 |_::_,_::_,[],_,h,_,_,_,_=>by simp[DataW.TrodAll] at h
theorem uk:∀(ts:List TypeId) (vs:List Value) (ds:List (DataW H)) (ps:List MemPlace),DataW.TrodAll enc P W 0 (fun _=>true) true ts vs ds ps→ds.length=ts.length
 |[],[],[],ps,h=>rfl
 |t::ts,v::vs,d::ds,ps,⟨p,q,h1,h2,he⟩=>by simp[uk ts vs ds q h2]
 |[],_::_,_,_,h=>by simp[DataW.TrodAll] at h
 |[],[],_::_,_,h=>by simp[DataW.TrodAll] at h
 |_::_,[],_,_,h=>by simp[DataW.TrodAll] at h
 |_::_,_::_,[],_,h=>by simp[DataW.TrodAll] at h
theorem tD{fs:Nat→Option aj}{ms:Nat→String→Option Nat}(sys:kW P fs ms)(codes:∀f af,fs f=some af→eS af.body=true)(hl:laidOutB P=true){fn:Func}{f:FuncId}{s:ChangeSpec}{apart fresh handsOn:Bool}
  (hvars:s.vars=[]){tb:TypeId}(hres:fn.resultTypes=#[tb])(htb:P.underlying tb=some .bool)
  (Hj:(fn.params.toList.all fun t=>P.readableRec t&&decide (t<P.types.size)&&eH P 100 t)=true)
  (hfn:∀ds:List (DataW H),ds.length=fn.params.size→(s.fn H ds).results=[.lit (.bool true)]∧(s.fn H ds).args=ds∧(s.fn H ds).vars=[])
  (law:∀xs:List AV,xs.length=fn.params.size→(∀(i:Nat) t x,fn.params.toList[i]?=some t→xs[i]?=some x→dc P t x)→PC fs ms f xs (.bool true))
  {base:Nat}{args:Array Value}{ds gs:List (DataW H)}{before:List MemPlace}
  (hval:∀(j:Nat) t v,fn.params[j]?=some t→args[j]?=some v→Value.okWide P W .any base t v)
  (hW:DataW.Whole enc P fn.params.toList s.vars apart W args.toList ds gs before)
  (qA:(DataW.weightsEach P (fn.params.toList++s.plain.varTypes P) (ds++gs)).all (· ≤reachBytes)=true):
  Calls P f args W fun e W'=>∃v,e=.returned v∧s.post enc P fn apart fresh handsOn false W args v W':=by
 have hr:∀t,t∈fn.params.toList→P.readableRec t=true∧t<P.types.size∧eH P 100 t=true:=by
  intro t ht;have:=List.all_eq_true.1 Hj t ht;simp only[Bool.and_eq_true,decide_eq_true_eq] at this;exact⟨this.1.1,this.1.2,this.2⟩
 have hW':=hW;have hlt:=hW.lt;obtain⟨p,q,hA,hV,rfl,hfz,B1⟩:=hW;rw[hvars] at hV;obtain⟨rfl,rfl⟩:=trodVars_none hV;obtain⟨h1,r1,xs,as,g1,g2,g3,g4,g5,g6,g7,g8⟩:=yp (H0:=W.heap.size) fn.params.toList args.toList ds p hA (by
  have hv0:s.plain.varTypes P=[]:=by simp[DataSpec.varTypes,hvars,ChangeSpec.plain]
  rw[hv0,List.append_nil,List.append_nil] at qA;exact qA) (fun t ht=>(hr t ht).2.2) (fun j t v ht hv=>hval j t v (by simpa using ht) (by simpa using hv)) _ _ (Ie (Nat.le_refl _))
 have hpc:=law xs (by simpa using g7) g8;have hc:=hpc.calls sys codes rfl g1 g3 g5;rw[g4] at hc;have hargs:args.toList.toArray=args:=by simp
 rw[hargs] at hc;refine hc.mono ?_;rintro e W' ⟨rfl,hk⟩;have hlen:ds.length=fn.params.size:=by simpa using uk _ _ _ _ hA
 obtain⟨e1,e2,e3⟩:=hfn ds hlen;refine⟨_,rfl,ds,[],p++[],[],p,[],hW',?_,?_,?_,?_,fun h=>by simp at h⟩
 ·rw[List.append_nil,e1,hres];exact trodAll_cons_mk (shut_bool htb _) trodAll_mk0
 ·rw[List.append_nil,e2];refine qL hl _ _ _ _ hA (fun t ht=>⟨(hr t ht).1,(hr t ht).2.1⟩) (fun x hx=>hk.same (hlt x (by simpa using hx))) _ (fun x hx=>by simpa using hlt x (by simpa using hx))
 ·rw[List.append_nil,e3,hvars];rfl
 ·exact World.keptBut_mono (fun x hx=>⟨hx,.inr (.inl (by simpa using hx))⟩) (hk.but (· ∈p++[]))
theorem mD{a:Assume}{C:Checked}{os:Os}{f:FuncId}{fn:Func}{s:ChangeSpec}{conds:List PathCond}{apart fresh handsOn again:Bool}
  (own:ownKnob C.prog.godebug=none)(started:os.Started)(noInit:C.prog.inits.idxOf? f=none)(hfn:C.prog.funcs[f]?=some fn)
  (witness:∃(w:World) (tape:Tape) (i:Input),w.os=os∧(w.forCall tape i).Shaped C.prog∧i.vars=[]∧Input.okWide C.prog (w.forCall tape i) .any w.heap.size f i∧
   s.pre6 enc C.prog fn conds apart (w.forCall tape i).memory i.args∧a.holds C.prog (lone (Frame.enter C.prog f i.args .normal) [] (w.forCall tape i)))
  (contract:∀(W:World) (base:Nat) (args:Array Value) (ds gs:List (DataW H)) (before:List MemPlace),
   (∀(j:Nat) t v,fn.params[j]?=some t→args[j]?=some v→Value.okWide C.prog W .any base t v)→
   DataW.Whole enc C.prog fn.params.toList s.vars apart W args.toList ds gs before→
   (DataW.weightsEach C.prog (fn.params.toList++s.plain.varTypes C.prog) (ds++gs)).all (· ≤reachBytes)=true→
   Calls C.prog f args W fun e W'=>∃v,e=.returned v∧s.post enc C.prog fn apart fresh handsOn again W args v W'):
  ReturnsInHanded a C os f .any (s.pre6 enc C.prog fn conds apart) (s.post enc C.prog fn apart fresh handsOn again):=by
 refine returnsInHanded_of_calls own started noInit witness ?_;intro w tape i _ _ _ hok hpre XO;obtain⟨_,_,_,fn',XK,_,_,_,_,hval⟩:=hok;have e:fn'=fn:=Option.some.inj (XK.symm.trans hfn);subst e;obtain⟨⟨ds,gs,before,hw,hc⟩,hz⟩:=hpre;have Ym:=DataW.Whole.of_heap (w':=w.forCall tape i) (by rfl) hw;refine(contract (w.forCall tape i) w.heap.size i.args ds gs before hval Ym (hz.weights hw)).mono fun e W' ⟨v,he,hp⟩=>?_;subst he;exact ChangeSpec.post_blind hp
theorem oa{t:TypeId}{k:IntKind}{x:AV}(h:dc P t x)(hu:P.underlying t=some (.int k)):∃n,x=.int k n∧(Lit.int k n).wf=true:=by
 cases h with
 |int h1 h2=>rw[hu] at h1;cases h1;exact⟨_,rfl,h2⟩
 |bool h1=>rw[hu] at h1;simp at h1
 |str h1=>rw[hu] at h1;simp at h1
 |slice h1=>rw[hu] at h1;simp at h1
 |struct h1=>rw[hu] at h1;simp at h1
 |array h1=>rw[hu] at h1;simp at h1
theorem Uu{t:TypeId}{x:AV}(h:dc P t x)(hu:P.underlying t=some .bool):∃b,x=.bool b:=by
 cases h with
 |bool h1=>exact⟨_,rfl⟩
 |int h1=>rw[hu] at h1;simp at h1
 |str h1=>rw[hu] at h1;simp at h1
 |slice h1=>rw[hu] at h1;simp at h1
 |struct h1=>rw[hu] at h1;simp at h1
 |array h1=>rw[hu] at h1;simp at h1
theorem PD{t:TypeId}{x:AV}(h:dc P t x)(hu:P.underlying t=some .string):∃s,x=.str s∧s.length≤reachBytes:=by
 cases h with
 |str h1 h2=>exact⟨_,rfl,h2⟩
 |int h1=>rw[hu] at h1;simp at h1
 |bool h1=>rw[hu] at h1;simp at h1
 |slice h1=>rw[hu] at h1;simp at h1
 |struct h1=>rw[hu] at h1;simp at h1
 |array h1=>rw[hu] at h1;simp at h1
theorem sQ{t e:TypeId}{x:AV}(h:dc P t x)(hu:P.underlying t=some (.slice e)):∃k l,x=.fz k l∧k≤3∧(k=3→l=[])∧l.length*P.bytesOf e≤reachBytes∧∀y,y∈l→dc P e y:=by
 cases h with
 |slice h1 h2 h3 h4 h5 h6=>rw[hu] at h1;cases h1;exact⟨_,_,rfl,h2,h3,h4,h6⟩
 |int h1=>rw[hu] at h1;simp at h1
 |str h1=>rw[hu] at h1;simp at h1
 |bool h1=>rw[hu] at h1;simp at h1
 |struct h1=>rw[hu] at h1;simp at h1
 |array h1=>rw[hu] at h1;simp at h1
theorem Fx{t:TypeId}{fs:Array Field}{x:AV}(h:dc P t x)(hu:P.underlying t=some (.struct fs)):∃(cs ys:List AV),x=.agg cs∧cs.length=P.cellsOf t∧ys.length=fs.size∧
  (∀(i:Nat) (f:Field) (y:AV),fs[i]?=some f→ys[i]?=some y→dc P f.type y∧y.cells=(cs.drop f.offset).take (P.cellsOf f.type)):=by
 cases h with
 |struct h1 h2 h3 h4 h5=>rw[hu] at h1;cases h1;exact⟨_,_,rfl,h2,h3,fun i f y hf hy=>⟨h4 i f y hf hy,h5 i f y hf hy⟩⟩
 |int h1=>rw[hu] at h1;simp at h1
 |str h1=>rw[hu] at h1;simp at h1
 |bool h1=>rw[hu] at h1;simp at h1
 |slice h1=>rw[hu] at h1;simp at h1
 |array h1=>rw[hu] at h1;simp at h1
theorem SR{t e:TypeId}{n:Nat}{x:AV}(h:dc P t x)(hu:P.underlying t=some (.array n e)):∃ys:List AV,x=.agg (ak ys)∧ys.length=n∧∀y,y∈ys→dc P e y:=by
 cases h with
 |array h1 h2 h3 h4=>rw[hu] at h1;cases h1;exact⟨_,rfl,h2,h4⟩
 |int h1=>rw[hu] at h1;simp at h1
 |str h1=>rw[hu] at h1;simp at h1
 |bool h1=>rw[hu] at h1;simp at h1
 |slice h1=>rw[hu] at h1;simp at h1
 |struct h1=>rw[hu] at h1;simp at h1
theorem vP{α:Type}{enc:α→AV}{q:α→Prop}:∀(l:List AV),(∀y,y∈l→∃a,y=enc a∧q a)→∃m:List α,l=m.map enc∧∀a,a∈m→q a
 |[],_=>⟨[],rfl,fun a ha=>by simp at ha⟩
 |y::l,h=>by
  obtain⟨a,ha,hq⟩:=h y List.mem_cons_self;obtain⟨m,hm,hm2⟩:=vP l (fun y hy=>h y (List.mem_cons_of_mem _ hy));exact⟨a::m,by rw[ha,hm];rfl,fun b hb=>by rcases List.mem_cons.1 hb with rfl|hb;exact hq;exact hm2 b hb⟩
theorem Uv{t e:TypeId}{x:AV}(h:dc P t x)(hu:P.underlying t=some (.slice e))(he:P.underlying e=some (.int .i64)):∃k l,x=.fz k (ints l)∧k≤3∧(k=3→l=[])∧l.length*P.bytesOf e≤reachBytes∧∀n,n∈l→(Lit.int .i64 n).wf=true:=by
 obtain⟨k,l,rfl,h1,h2,h3,h4⟩:=sQ h hu;obtain⟨m,rfl,h5⟩:=vP (enc:=AV.int .i64) (q:=fun n=>(Lit.int .i64 n).wf=true) l (fun y hy=>oa (h4 y hy) he);exact⟨k,m,rfl,h1,fun hk=>by simpa using h2 hk,by simpa using h3,h5⟩
end
end Ads
end Go.Proofs.YtmnolnoeibhjgaaGreat
