/-
  What big steps mean in the model: a round of a range over a function that panics.
-/
import Derived.Test.YtmnolnoeibhjgaaGreatAdsRange
set_option linter.unusedSimpArgs false
set_option linter.unusedVariables false
namespace Go.Proofs.YtmnolnoeibhjgaaGreat
namespace Ads
section
variable {P:Program} {H0 W0:Nat} {ρ ρ':cG} {D D':Dom} {h h' h1 h2:Heap} {w w':World} {N n:Nat} {env e e':Env} {a:Act} {ro:Option Nat} {rd:Bool}
theorem fQ{m:Machine}:m.fenced P (FW ro):=by
 have:=fenced_wide P m;cases ro with
 |none=>exact this
 |some l=>exact this
theorem dD{ops:Array Oper}{Q:Exit→Act→World→Prop}(hQ:∀e a w,Q e a w→∃ch,e=.panic ch):∀(l:List Nat) (a:Act) (w:World),wpOpsIn (FW ro) n P ops Q l a w→
  ∀(b:Frame) (k:List Item) (cs:List Frame),b.roundOf=ro→∃ch a' w' l',Q (.panic ch) a' w'∧
   StepsIn (Machine.fenced P (FW ro)) P (lone (b.atR a (.inRegion ops l::k)) cs w) (lone {b.atR a' (.inRegion ops l'::k) with mode:=.panicking ch} cs w')
 |[],a,w,h,b,k,cs,hro=>by
  obtain⟨ch,hc⟩:=hQ _ _ _ h;simp at hc
 |i::rest,a,w,h,b,k,cs,hro=>by
  have hroom:∀m,(FW ro).room m:=fun m d hd=>by simp[FW,Fence.wide] at hd
  simp only[wpOpsIn] at h;cases ho:ops[i]? with
  |none=>
   simp only[ho] at h;obtain⟨ch,a',w',l',hq,hs⟩:=dD hQ rest a w h b k cs hro;have s1:=stepR_op_skip (P:=P) (b:=b) (a:=a) (k:=k) (cs:=cs) (w:=w) (ops:=ops) (i:=i) (rest:=rest) (by simp[ho]);simp only[ho,Option.bind_none,Act.put] at s1;exact⟨ch,a',w',l',hq,.head fQ s1 hs⟩
  |some o=>
   simp only[ho] at h;by_cases hw:Region.wanted o (yielded ops a.tmps)=true
   ·simp only[hw,if_true,Oper.wpIn] at h;obtain⟨_,h⟩:=h;have hg:=stepGR_op (P:=P) (b:=b) (k:=k) (cs:=cs) (w:=w) (rest:=rest) ho hw;rw[hro] at hg;have jf:∀v,(b.atR a (.inRegion ops (i::rest)::k)).finish v=b.atR (a.put o.dst v) (.inRegion ops rest::k):=by
     intro v;rw[Frame.finish_atR,ho];rfl
    have OM:(FW ro).round=ro:=rfl;rw[OM] at h;simp only[Oper.uponIn] at h;split at h
    ·rename_i v w' hr';obtain⟨ch,a',w'',l',hq,hs⟩:=dD hQ rest _ _ h b k cs hro;refine⟨ch,a',w'',l',hq,.head fQ (step_lone_go ?_) hs⟩;rw[hg,←jf];simp[stepG.apply,hr']
    ·rename_i w' hr';obtain⟨ch,a',w'',l',hq,hs⟩:=dD hQ rest _ _ h b k cs hro;refine⟨ch,a',w'',l',hq,.head fQ (step_lone_go ?_) hs⟩;rw[hg,←jf];simp[stepG.apply,hr']
    ·rename_i d w' hr';obtain⟨ch,a',w'',l',hq,hs⟩:=dD hQ rest _ _ h b k cs hro;refine⟨ch,a',w'',l',hq,.head fQ (step_lone_go ?_) hs⟩;have:({b.atR a (.inRegion ops (i::rest)::k) with defers:=d::a.defers}:Frame).finish undef=
       b.atR ({a with defers:=d::a.defers}.put o.dst undef) (.inRegion ops rest::k):=by
      have:=Frame.finish_atR b {a with defers:=d::a.defers} ops i rest k undef;rw[ho] at this;exact this
     rw[hg];simp only[stepG.apply,Sem.runT_eq,hr',GStep.bare_after];exact congrArg (fun fr=>GStep.go {frame:=fr,callers:=cs,status:=.running,dying:=none} w') this
    ·rename_i f args w' hr';obtain⟨_,_,h⟩:=h;obtain⟨e,w'',fr,hR,rj,hfn,G4⟩:=h (b.atR a (.inRegion ops (i::rest)::k)::cs) (hroom _);have q9:step P (lone (b.atR a (.inRegion ops (i::rest)::k)) cs w)=
       .next (lone (Frame.enter P f args .normal) (b.atR a (.inRegion ops (i::rest)::k)::cs) w'):=
      step_lone_go (by rw[hg];simp[stepG.apply,hr',Frame.atR])
     cases e with
     |returned v=>
      obtain⟨ch,a',w₃,l',hq,hs⟩:=dD hQ rest _ _ hR b k cs hro;refine⟨ch,a',w₃,l',hq,.head fQ q9 (StepsIn.trans rj (.head fQ ?_ hs))⟩;rw[←jf];exact step_leave_returned G4
     |panicked chain=>
      refine⟨chain,a,w'',i::rest,hR,.head fQ q9 (StepsIn.trans rj (.one fQ ?_))⟩;rw[←Frame.raise_atR];exact step_leave_panicked G4
     |outgrown=>
      obtain⟨a₀,w₀,hq⟩:=hR;obtain⟨ch,hc⟩:=hQ _ _ _ hq;simp at hc
    ·rename_i row args w' hr';obtain⟨_,h⟩:=h;obtain⟨v,w'',hR,rj⟩:=h (b.atR a (.inRegion ops (i::rest)::k)) cs (hroom _);have q9:step P (lone (b.atR a (.inRegion ops (i::rest)::k)) cs w)=
       .next (lone (Frame.ofRow P row args .normal) (b.atR a (.inRegion ops (i::rest)::k)::cs) w'):=
      step_lone_go (by rw[hg];simp[stepG.apply,hr',Frame.atR])
     obtain⟨ch,a',w₃,l',hq,hs⟩:=dD hQ rest _ _ hR b k cs hro;refine⟨ch,a',w₃,l',hq,.head fQ q9 (StepsIn.trans rj ?_)⟩;rw[jf];exact hs
    ·rename_i l f tmps assign body w' hr';obtain⟨_,_,h⟩:=h;obtain⟨e,w'',hR,rj⟩:=h (b.atR a (.inRegion ops (i::rest)::k)) cs (hroom _);have q9:step P (lone (b.atR a (.inRegion ops (i::rest)::k)) cs w)=
       .next (lone (Frame.round l f tmps assign body .normal) (b.atR a (.inRegion ops (i::rest)::k)::cs) w'):=
      step_lone_go (by rw[hg];simp[stepG.apply,hr',Frame.atR])
     cases e with
     |returned v=>
      obtain⟨ch,a',w₃,l',hq,hs⟩:=dD hQ rest _ _ hR b k cs hro;refine⟨ch,a',w₃,l',hq,.head fQ q9 (StepsIn.trans rj ?_)⟩;simp only[];rw[jf];exact hs
     |panicked chain=>
      refine⟨chain,a,w'',i::rest,hR,.head fQ q9 rj⟩
     |outgrown=>
      obtain⟨a₀,w₀,hq⟩:=hR;obtain⟨ch,hc⟩:=hQ _ _ _ hq;simp at hc
    ·rename_i v w' hr';refine⟨_,a,w',i::rest,h,.one fQ (step_lone_go ?_)⟩;rw[hg,←Frame.raise_atR];simp[stepG.apply,hr']
    ·exact h.elim
   ·simp only[hw,if_false,Bool.false_eq_true] at h;obtain⟨_,h⟩:=h;obtain⟨ch,a',w',l',hq,hs⟩:=dD hQ rest _ _ h b k cs hro;have s1:=stepR_op_skip (P:=P) (b:=b) (a:=a) (k:=k) (cs:=cs) (w:=w) (ops:=ops) (i:=i) (rest:=rest)
     (by simp[ho];simpa using hw)
    simp only[ho,Option.bind_some] at s1;exact⟨ch,a',w',l',hq,.head fQ s1 hs⟩
theorem step_scope{b:Frame}{c:Code}{k:List Item}{cs:List Frame}:step P (lone (b.atR a (.code (.scope c)::k)) cs w)=.next (lone (b.atR a (.code c::.inScope c::k)) cs w):=
 step_lone_go (by simp[stepG,stepG.exec,Frame.atR])
def qD(ro:Option Nat)(P:Program)(code:Code)(Q:List PanicEntry→Act→World→Prop)(a:Act)(w:World):Prop:=
 ∀(b:Frame) (k:List Item) (cs:List Frame),b.roundOf=ro→∃ch a' w' ops l' k',Q ch a' w'∧
  StepsIn (Machine.fenced P (FW ro)) P (lone (b.atR a (.code code::k)) cs w) (lone {b.atR a' (.inRegion ops l'::k') with mode:=.panicking ch} cs w')
theorem nN{code c:Code}{Q:List PanicEntry→Act→World→Prop}(hs:∀(b:Frame) (k:List Item) (cs:List Frame),∃k',step P (lone (b.atR a (.code code::k)) cs w)=.next (lone (b.atR a (.code c::k')) cs w))
  (hp:qD ro P c Q a w):qD ro P code Q a w:=by
 intro b k cs hro;obtain⟨k0,h0⟩:=hs b k cs;obtain⟨ch,a',w',ops,l',k',hq,hst⟩:=hp b k0 cs hro;exact⟨ch,a',w',ops,l',k',hq,.head fQ h0 hst⟩
theorem Ff{x y:Code}{Q:List PanicEntry→Act→World→Prop}(hx:x.wpIn (FW ro) n P (fun ex a' w'=>ex=.normal∧qD ro P y Q a' w') a w):qD ro P (.seq x y) Q a w:=by
 intro b k cs hro;obtain⟨ex,a1,w1,⟨rfl,hy⟩,gk⟩:=hx b (.code y::k) cs hro (by cases ro<;>trivial) (fun d hd=>by simp[FW,Fence.wide] at hd);obtain⟨ch,a',w',ops,l',k',hq,hst⟩:=hy b k cs hro;exact⟨ch,a',w',ops,l',k',hq,.head fQ stepR_seq (StepsIn.trans gk hst)⟩
def Es(P:Program)(H0:Nat)(ρ:cG)(D:Dom)(h:Heap)(w:World)(v:AV)(h2:Heap):List PanicEntry→Act→World→Prop:=fun ch a' w'=>
 a'.defers=[]∧∃ρ',ch=[{v:=real ρ' v,recovered:=false}]∧Inv P H0 ρ' (grow D h.next h2.next) h2 w'∧Ext ρ D h w ρ' h2 w'∧v.aW (grow D h.next h2.next)
theorem Fe{l1 l2:List bp}{i:bp}{tr:List aK}{v:AV}(j8:OT P H0 l1 e h tr e' h')(hw0:bO i e'=true)(hop:i.op≠.bad∧mo P H0 i.op (i.args.map e'.ev) h' v h2):∀{code:Code},aE P code=.ops (l1++i::l2)→
  cY N (l1++i::l2)=true→∀{a:Act},Inv P H0 ρ D h w→bG ρ D N e a→a.defers=[]→qD ro P code (Es P H0 ρ D h w v h2) a w:=by
 intro code;induction code with
 |scope c' ih=>
  intro hc hN a hi he hd;exact nN (c:=c') (fun b k cs=>⟨_,step_scope⟩) (ih (by simpa[aE] using hc) hN hi he hd)
 |region id os draw=>
  intro hc hN a hi he hd b k cs hro;obtain⟨id',os',hcd,hos⟩:=dS (code:=.region id os draw) rfl hc;simp only[Code.region.injEq] at hcd;obtain⟨_,rfl,rfl⟩:=hcd;rw[qc,Bool.and_eq_true] at hN;have hl:wpListIn (FW ro) 0 P os (fun ex a' w'=>∃ch,ex=.panic ch∧Es P H0 ρ D h w v h2 ch a' w') os.toList a w:=by
   refine jM j8 hw0 hop.1 hop.2 hos hN.1 hi he ?_;intro ρ' w' a' g1 g2 g3 g4 g5;exact⟨_,rfl,g4.trans hd,ρ',rfl,g1,g2,g5⟩
  have RQ:wpOpsIn (FW ro) 0 P os (fun ex a' w'=>∃ch,ex=.panic ch∧Es P H0 ρ D h w v h2 ch a' w') (List.range os.size) a w:=by
   rw[List.range_eq_range',←Array.length_toList,wpOpsIn_eq_wpListIn os.toList 0 (by simp)];exact hl
  obtain⟨ch,a',w',l',⟨ch',Oi,hq⟩,hst⟩:=dD (fun e a w hh=>by obtain⟨ch,hc,_⟩:=hh;exact⟨ch,hc⟩) _ a w RQ b k cs hro;cases Oi
  exact⟨ch,a',w',os,l',k,hq,.head fQ stepR_region hst⟩
 |_=>intro hc;obtain⟨_,_,hcd,_⟩:=dS rfl hc;simp at hcd
theorem CV{A B:AC}{v:AV}{e1:Env}(hA:bD P H0 true A e h .normal e1 h1)(B0:aU A=true)
  (hB:∀{code:Code},aE P code=B→codeOk N B=true→∀{ρ:cG} {D:Dom} {w:World} {a:Act},Inv P H0 ρ D h1 w→bG ρ D N e1 a→a.defers=[]→qD (some n) P code (Es P H0 ρ D h1 w v h2) a w):
  ∀{code:Code},aE P code=.seq A B→codeOk N (.seq A B)=true→∀{a:Act},Inv P H0 ρ D h w→bG ρ D N e a→a.defers=[]→qD (some n) P code (Es P H0 ρ D h w v h2) a w:=by
 intro code;induction code with
 |scope c' ih=>
  intro hc hN a hi he hd;exact nN (c:=c') (fun b k cs=>⟨_,step_scope⟩) (ih (by simpa[aE] using hc) hN hi he hd)
 |seq x y _ _=>
  intro hc hN a hi he hd;simp only[aE,AC.seq.injEq] at hc;simp only[codeOk,Bool.and_eq_true] at hN;refine Ff (n:=0) ?_;have hm0:jc [] w.heap.size ρ D h w a.defers:=⟨[],by rw[hd];rfl,List.nodup_nil,fun r hr=>by simp at hr⟩;refine Code.wpIn_mono ?_ (hA x hc.1 N hN.1 (some n) rfl ρ D w a w.heap.size 0 [] hi he hm0 (Nat.le_refl _));rintro ex a' w' ⟨ρ',hex,g1,g2,g3,g4,g5⟩;refine⟨hex,?_⟩;intro b k cs hro;obtain⟨ch,a2,w2,ops,l',k',⟨q1,iQ,q2,q3,q4,q5⟩,hst⟩:=hB hc.2 hN.2 g1 g3 ((g5 B0).trans hd) b k cs hro;have hn2:=q4.next;rw[dH D g2.next hn2] at q3 q5;exact⟨ch,a2,w2,ops,l',k',⟨q1,iQ,q2,q3,Ext.trans hi.lt g2 q4,q5⟩,hst⟩
 |_=>intro hc hN;obtain⟨_,_,hcd,_⟩:=fo rfl hc;simp at hcd
theorem Bn{id:Nat}{c:AC}{Q:List PanicEntry→Act→World→Prop}(hB:∀{code:Code},aE P code=c→qD ro P code Q a w):∀{code:Code},aE P code=.block id c→qD ro P code Q a w:=by
 intro code;induction code with
 |scope c' ih=>
  intro hc;exact nN (c:=c') (fun b k cs=>⟨_,step_scope⟩) (ih (by simpa[aE] using hc))
 |block i x _=>
  intro hc;simp only[aE,AC.block.injEq] at hc;exact nN (c:=x) (fun b k cs=>⟨_,stepR_block⟩) (hB hc.2)
 |_=>intro hc;obtain⟨_,hcd,_⟩:=jd rfl hc;simp at hcd
theorem Da{L:Nat}{args:List AV}{cw bW:Option AX}{ps:List Nat}{x A:AC}{id:Nat}{l1 l2:List bp}{i:bp}{e2 e3 e4:Env}{h3 h4 h5:Heap}{tr:List aK}{v:AV}
  (hg:h.get L=some (.loop 0 cw e ps x (.block id (.seq A (.ops (l1++i::l2))))))(hlen:args.length=ps.length)(uH:bD P H0 true x (eW ps args e) h .normal e2 h2)(hU:aU x=true)
  (zj:h2.get L=some (.loop 0 bW e ps x (.block id (.seq A (.ops (l1++i::l2))))))(B0:aU A=true)
  (hA:bD P H0 true A e2 (h2.set L (.loop 1 bW e ps x (.block id (.seq A (.ops (l1++i::l2)))))) .normal e3 h3)
  (j8:OT P H0 l1 e3 h3 tr e4 h4)(hw0:bO i e4=true)(hop:i.op≠.bad∧mo P H0 i.op (i.args.map e4.ev) h4 v h5):pP P H0 (.yield L) args h v h5:=by
 generalize hy:(AC.block id (.seq A (.ops (l1++i::l2))))=y at*;intro ρ D w hi hf hd o a ro n next Q hk
 simp only[AV.aW] at hf;obtain⟨_,r,hr,hst,hpd,Yk,vz,hps,hca,hcb,OD,OE,Oa⟩:=hi.bH L _ hf hg;have hsz:args.length=r.params.size:=by rw[hlen,←hps];simp
 have hrun:((do let d ←Deferred.ofValue (real ρ (.yield L)) (aq ρ args).toArray;invoke d.target d.args:Sem Next).run P w)=
   .ok (.round (ρ L).bH r.fn ((ps.zip (aq ρ args)).foldl (fun tmps p=>tmps.setIfInBounds p.1 p.2) r.tmps) r.assign r.body) w:=by
  simp only[real,Deferred.ofValue,Sem.run_bind,Sem.run_pure,Result.andThen,invoke,Instr.yield,run_getLoop hr];rw[if_neg (by simp[aM,hsz])];simp only[Sem.run_pure]
  congr 2
  rw[←hps];rw[←Array.foldl_toList];simp
 rw[hrun];refine⟨fun hh=>by simp[FW,Fence.wide] at hh,trivial,fun c cs _=>?_⟩;have Ol:=pg (ρ:=ρ) (D:=D) (ps:=ps) (args:=args) (e:=e) (tmps:=r.tmps) hlen.symm Oa rfl Yk vz hd;have hm0:jc [] w.heap.size ρ D h w ([]:List Deferred):=⟨[],rfl,List.nodup_nil,fun r hr=>by simp at hr⟩
 let b:Frame:={(default:Frame) with fn:=r.fn,kind:=.normal,roundOf:=some (ρ L).bH}
 have hb0:Frame.round (ρ L).bH r.fn ((ps.zip (aq ρ args)).foldl (fun tmps p=>tmps.setIfInBounds p.1 p.2) r.tmps) r.assign r.body .normal=b.atR {tmps:=(ps.zip (aq ρ args)).foldl (fun tmps p=>tmps.setIfInBounds p.1 p.2) r.tmps,defers:=[]} [.code r.assign,.beginRound,.code r.body]:=by
  simp[Frame.round,Frame.atR,b]
 obtain⟨ex,a1,w1,⟨pO,hex,i1,x1,EK,m1,nd1⟩,gk⟩:=uH r.assign hca r.tmps.size OD (some (ρ L).bH) rfl ρ D w _ w.heap.size 0 [] hi Ol hm0 (Nat.le_refl _) b [.beginRound,.code r.body] (c::cs) rfl trivial (fun d hd=>by simp[FW,Fence.wide] at hd);have hex:ex=.normal:=hex;subst hex;have BZ:a1.defers=[]:=nd1 hU;have FC:grow D h.next h2.next L:=.inl hf;have uA:=x1.bA L hf;obtain⟨_,r1,rK,OO,OF,OR,On,OH,Od,Og,G7,G9,GQ⟩:=i1.bH L _ FC zj;have x9:=sw i1 FC zj rK (st':=1) (ku:=bW) (r':={r1 with state:=.busy}) ⟨rfl,OF,OR,On,OH,Od,Og,G7,G9,GQ⟩;have Hr:r1.state=.ready:=OO;have zh:(Instr.beginRound (ρ L).bH).run P w1=.ok () (setRow w1 (pO L).bH (.loop {r1 with state:=.busy})):=by
  rw[←uA];simp only[Instr.beginRound,Sem.run_bind,run_getLoop rK,Result.andThen,nT rK (fun _ _ _=>by simp),Hr,Sem.run_pure]
 have hi1:=x9.1;have hx1:=x9.2;have hbody:qD (some (ρ L).bH) P r.body (Es P H0 pO (grow D h.next h2.next) (h2.set L (.loop 1 bW e ps x y)) (setRow w1 (pO L).bH (.loop {r1 with state:=.busy})) v h5) a1 (setRow w1 (pO L).bH (.loop {r1 with state:=.busy})):=by
  subst hy;refine Bn (fun{code} hc=>?_) hcb;exact CV hA B0 (fun{code} hc hN {ρ D w a} gi ge gd=>Fe j8 hw0 hop hc hN gi ge gd) hc OE hi1 EK BZ
 obtain⟨ch,a2,w2,ops,l',k',⟨q1,iQ,q2,q3,q4,q5⟩,hst⟩:=hbody b [] (c::cs) rfl;subst q2;have g1:=x1.next;have g2:=q4.next;rw[show(h2.set L (.loop 1 bW e ps x y)).next=h2.next from rfl] at g2 q3 q5;rw[dH D g1 g2] at q3 q5;have xb:Ext pO (grow D h.next h2.next) h2 w1 iQ h5 w2:=Ext.trans i1.lt hx1 (by
  rw[show(h2.set L (.loop 1 bW e ps x y)).next=h2.next from rfl,bn];exact q4)
 refine⟨.panicked [{v:=real iQ v,recovered:=false}],w2,hk iQ w2 q3 (Ext.trans hi.lt x1 xb) q5,?_⟩;show StepsIn _ P _ _;rw[hb0];refine StepsIn.trans gk (.head fQ (stepR_beginRound rfl zh) (StepsIn.trans hst (.one fQ ?_)));exact step_lone_go (by cases hq:P.funcs[r.fn]?<;>simp[stepG,unwind,Frame.catches,Frame.atR,q1,b,hq])
theorem C6{g:bx}{ps:List Nat}{x y:AC}{f:Nat}{first aO:List AV}{v:AV}(hg:e.ev g=.func (.func f) first aO)
  (hc:mG P H0 f (first++(.yield h.next::aO)) (h.new (.loop 0 none e ps x y)) v h2)(tv:∀(args:Array Value) (w:World),(callFunc f args).run P w=.ok (.enter f args) w):
  bD P H0 false (.rangeFunc g ps x y) e h (.panic v) e h2:=by
 refine cL fun code hs eE N hN ro hro ρ D w a W0 n tl hi he hm hW=>?_;obtain⟨gq,qs,cx,cy,rfl,Ua,Yg,hx,hy⟩:=oL hs eE;have vJ:ro=none:=by cases ro<;>simp_all
 subst vJ;simp only[codeOk,Bool.and_eq_true] at hN;refine wpIn_rangeFunc ?_;intro fn _
 let wd:=w.alloc (.deferred (some []))
 have hwd:wd.heap.size=w.heap.size+1:=by show(w.heap.push _).size=_;simp
 let lp:Loop:={state:=.ready,pending:=none,fn:=fn,tmps:=a.tmps,params:=qs,assign:=cx,body:=cy,defers:=w.heap.size}
 have vH:=Be hi (.deferred (some []));have GP:∀b,D b→j5 ρ h.next ⟨wd.heap.size,0,0⟩ b=ρ b:=fun b hb=>jI _ _ (by have:=hi.lt b hb;omega);have tY:bG (j5 ρ h.next ⟨wd.heap.size,0,0⟩) (grow D h.next (h.next+1)) N e a:=he.mono GP (fun _=>.inl);have hnew:=pG (w:=wd) (w':=wd.alloc (.loop lp)) vH.1 (.loop 0 none e ps x y) 0 (.loop lp) rfl rfl rfl rfl
  ⟨vH.1.low,lp,jz wd _,rfl,rfl,tY.get,tY.dom,Yg,hx,hy,by rw[show lp.tmps.size=N from he.size];exact hN.1.2,by rw[show lp.tmps.size=N from he.size];exact hN.2,by rw[show lp.tmps.size=N from he.size];exact hN.1.1⟩
 have AT:Ext ρ D h w (j5 ρ h.next ⟨wd.heap.size,0,0⟩) (h.new (.loop 0 none e ps x y)) (wd.alloc (.loop lp)):=Ext.trans hi.lt vH.2 (by rw[bn];exact hnew.2);have vE:=aG tY Ua;rw[hg] at vE;simp only[AV.aW] at vE;refine⟨wd.heap.size,[{target:=.collected w.heap.size,args:=#[]}],wd.alloc (.loop lp),{target:=.fn (.func f) (aq (j5 ρ h.next ⟨wd.heap.size,0,0⟩) aO).toArray,args:=(aq (j5 ρ h.next ⟨wd.heap.size,0,0⟩) first).toArray++#[.func (.yield wd.heap.size) #[] #[]]},wd.alloc (.loop lp),f,
  (aq (j5 ρ h.next ⟨wd.heap.size,0,0⟩) (first++(.yield h.next::aO))).toArray,wd.alloc (.loop lp),?_,?_,fun _ _=>trivial,?_,fun hh=>by simp[FW,Fence.wide] at hh,?_⟩
 ·show(Instr.enterLoop fn a.tmps qs cx cy none).run P w=_;simp only[Instr.enterLoop,Sem.run_bind,run_newObj_alloc,Result.andThen,Sem.run_pure];rfl
 ·simp only[resolve];rw[show a.eval gq=real (j5 ρ h.next ⟨wd.heap.size,0,0⟩) (.func (.func f) first aO) from vE.1];simp[Deferred.ofValue,real,Act.eval]
 ·simp only[invoke,tv]
  congr 2
  have:real (j5 ρ h.next ⟨wd.heap.size,0,0⟩) (.yield h.next)=.func (.yield wd.heap.size) #[] #[]:=by simp[real,bM]
  simp[ig,aq,this]
 ·have hda:bl (grow D h.next (h.next+1)) (first++(.yield h.next::aO)):=by
   rw[aN];intro z hz;rcases List.mem_append.1 hz with hz|hz
   ·exact(aN _ _).1 vE.2.2.1 z hz
   ·rcases List.mem_cons.1 hz with hz|hz
    ·rw[hz];simp only[AV.aW];exact .inr ⟨Nat.le_refl _,by omega⟩
    ·exact(aN _ _).1 vE.2.2.2 z hz
  refine CallsIn.mono (hc (j5 ρ h.next ⟨wd.heap.size,0,0⟩) (grow D h.next (h.next+1)) (wd.alloc (.loop lp)) (n-1) hnew.1 hda) ?_;rintro en w3 ⟨iQ,rfl,i2,x2,I4⟩;have hU:(h.new (.loop 0 none e ps x y)).next=h.next+1:=rfl
  rw[hU] at i2 I4;have hn2:h.next+1≤h2.next:=by have:=x2.next;rw[hU] at this;exact this
  have IS:=Ext.trans hi.lt AT (by rw[hU];exact x2);have Lh:=dH D (show h.next≤h.next+1 by omega) hn2;rw[Lh] at i2 I4;have NK:bG iQ (grow D h.next h2.next) N e {a with defers:=[{target:=.collected w.heap.size,args:=#[]}]++a.defers}:=by
   have:=he.mono (ρ':=iQ) (D':=grow D h.next h2.next) (fun b hb=>IS.bA b hb) (fun _=>.inl);exact⟨this.size,this.get,this.dom⟩
  have O6:jc tl W0 iQ (grow D h.next h2.next) h2 w3 ([{target:=.collected w.heap.size,args:=#[]}]++a.defers):=by
   have m1:jc tl W0 (j5 ρ h.next ⟨wd.heap.size,0,0⟩) (grow D h.next (h.next+1)) (h.new (.loop 0 none e ps x y)) (wd.alloc (.loop lp)) ([{target:=.collected w.heap.size,args:=#[]}]++a.defers):=by
    obtain⟨rs,q1,q2,q3⟩:=hm.ext hi.lt AT;rw[hU] at q3;refine⟨w.heap.size::rs,by rw[q1];rfl,?_,?_⟩
    ·refine List.nodup_cons.2 ⟨?_,q2⟩;intro hmem;obtain⟨rs',YI,q2',YJ⟩:=hm;have:rs=rs':=by
      have he:=q1.symm.trans YI;have he:=List.append_cancel_right he;have hinj:=congrArg (List.map (fun d:Deferred=>match d.target with|.collected r=>r|_=>0)) he;simpa[marksOf,Function.comp_def] using hinj
     rw[this] at hmem;have:=(Array.getElem?_eq_some_iff.1 (YJ _ hmem).2.1).1;omega
    ·intro r hr;rcases List.mem_cons.1 hr with rfl|hr
     ·refine⟨hW,?_,?_⟩
      ·show((w.heap.push _).push _)[w.heap.size]?=_;rw[Array.getElem?_push,if_neg (by simp),Array.getElem?_push,if_pos rfl]
      ·rintro b (hb|⟨oA,gn⟩) hn
       ·rw[GP b hb];rw[Heap.bT,if_neg (by have:=hi.lt b hb;omega)] at hn;have:=hi.J3 hb hn;omega
       ·have:b=h.next:=by omega
        subst this;rw[bM];simp only;omega
     ·exact q3 r hr
   have:=m1.ext hnew.1.lt x2;rw[hU] at this;rw[←Lh];exact this
  exact⟨iQ,⟨rfl,I4⟩,i2,IS,NK,O6,fun hn=>by simp[aU] at hn⟩
end
end Ads
end Go.Proofs.YtmnolnoeibhjgaaGreat
