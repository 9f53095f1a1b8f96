/-
  What big steps mean in the model: a round of a range over a function that panics.
-/
import Derived.Test.YtnlcabhfkpafmaaGreatAdsRange
set_option linter.unusedSimpArgs false
set_option linter.unusedVariables false
namespace Go.Proofs.YtnlcabhfkpafmaaGreat
namespace Ads
section
variable {P:Program} {H0 W0:Nat} {ρ ρ':cC} {D D':Dom} {h h' h1 h2:Heap} {w w':World} {N n:Nat} {env e e':Env} {a:Act} {ro:Option Nat} {rd:Bool}
theorem fW{m:Machine}:m.fenced P (FW ro):=by
 have:=fenced_wide P m;cases ro with
 |none=>exact this
 |some l=>exact this
theorem dD{ops:Array Oper}{Q:Exit→Act→World→Prop}(hQ:∀e a w,Q e a w→∃ch,e=.panic ch):∀(l:List Nat) (a:Act) (w:World),wpOpsIn (FW ro) n P ops Q l a w→
  ∀(b:Frame) (k:List Item) (cs:List Frame),b.roundOf=ro→∃ch a' w' l',Q (.panic ch) a' w'∧
   StepsIn (Machine.fenced P (FW ro)) P (lone (b.atR a (.inRegion ops l::k)) cs w) (lone {b.atR a' (.inRegion ops l'::k) with mode:=.panicking ch} cs w')
 |[],a,w,h,b,k,cs,hro=>by
  obtain⟨ch,hc⟩:=hQ _ _ _ h;simp at hc
 |i::rest,a,w,h,b,k,cs,hro=>by
  have hroom:∀m,(FW ro).room m:=fun m d hd=>by simp[FW,Fence.wide] at hd
  simp only[wpOpsIn] at h;cases ho:ops[i]? with
  |none=>
   simp only[ho] at h;obtain⟨ch,a',w',l',hq,hs⟩:=dD hQ rest a w h b k cs hro;have s1:=stepR_op_skip (P:=P) (b:=b) (a:=a) (k:=k) (cs:=cs) (w:=w) (ops:=ops) (i:=i) (rest:=rest) (by simp[ho]);simp only[ho,Option.bind_none,Act.put] at s1;exact⟨ch,a',w',l',hq,.head fW s1 hs⟩
  |some o=>
   simp only[ho] at h;by_cases hw:Region.wanted o (yielded ops a.tmps)=true
   ·simp only[hw,if_true,Oper.wpIn] at h;obtain⟨_,h⟩:=h;have hg:=stepGR_op (P:=P) (b:=b) (k:=k) (cs:=cs) (w:=w) (rest:=rest) ho hw;rw[hro] at hg;have iW:∀v,(b.atR a (.inRegion ops (i::rest)::k)).finish v=b.atR (a.put o.dst v) (.inRegion ops rest::k):=by
     intro v;rw[Frame.finish_atR,ho];rfl
    have Pq:(FW ro).round=ro:=rfl;rw[Pq] at h;simp only[Oper.uponIn] at h;split at h
    ·rename_i v w' hr';obtain⟨ch,a',w'',l',hq,hs⟩:=dD hQ rest _ _ h b k cs hro;refine⟨ch,a',w'',l',hq,.head fW (step_lone_go ?_) hs⟩;rw[hg,←iW];simp[stepG.apply,hr']
    ·rename_i w' hr';obtain⟨ch,a',w'',l',hq,hs⟩:=dD hQ rest _ _ h b k cs hro;refine⟨ch,a',w'',l',hq,.head fW (step_lone_go ?_) hs⟩;rw[hg,←iW];simp[stepG.apply,hr']
    ·rename_i d w' hr';obtain⟨ch,a',w'',l',hq,hs⟩:=dD hQ rest _ _ h b k cs hro;refine⟨ch,a',w'',l',hq,.head fW (step_lone_go ?_) hs⟩;have:({b.atR a (.inRegion ops (i::rest)::k) with defers:=d::a.defers}:Frame).finish undef=
       b.atR ({a with defers:=d::a.defers}.put o.dst undef) (.inRegion ops rest::k):=by
      have:=Frame.finish_atR b {a with defers:=d::a.defers} ops i rest k undef;rw[ho] at this;exact this
     rw[hg];simp only[stepG.apply,Sem.runT_eq,hr',GStep.bare_after];exact congrArg (fun fr=>GStep.go {frame:=fr,callers:=cs,status:=.running,dying:=none} w') this
    ·rename_i f args w' hr';obtain⟨_,_,h⟩:=h;obtain⟨e,w'',fr,hR,qT,hfn,HN⟩:=h (b.atR a (.inRegion ops (i::rest)::k)::cs) (hroom _);have qQ:step P (lone (b.atR a (.inRegion ops (i::rest)::k)) cs w)=
       .next (lone (Frame.enter P f args .normal) (b.atR a (.inRegion ops (i::rest)::k)::cs) w'):=
      step_lone_go (by rw[hg];simp[stepG.apply,hr',Frame.atR])
     cases e with
     |returned v=>
      obtain⟨ch,a',w₃,l',hq,hs⟩:=dD hQ rest _ _ hR b k cs hro;refine⟨ch,a',w₃,l',hq,.head fW qQ (StepsIn.trans qT (.head fW ?_ hs))⟩;rw[←iW];exact step_leave_returned HN
     |panicked chain=>
      refine⟨chain,a,w'',i::rest,hR,.head fW qQ (StepsIn.trans qT (.one fW ?_))⟩;rw[←Frame.raise_atR];exact step_leave_panicked HN
     |outgrown=>
      obtain⟨a₀,w₀,hq⟩:=hR;obtain⟨ch,hc⟩:=hQ _ _ _ hq;simp at hc
    ·rename_i row args w' hr';obtain⟨_,h⟩:=h;obtain⟨v,w'',hR,qT⟩:=h (b.atR a (.inRegion ops (i::rest)::k)) cs (hroom _);have qQ:step P (lone (b.atR a (.inRegion ops (i::rest)::k)) cs w)=
       .next (lone (Frame.ofRow P row args .normal) (b.atR a (.inRegion ops (i::rest)::k)::cs) w'):=
      step_lone_go (by rw[hg];simp[stepG.apply,hr',Frame.atR])
     obtain⟨ch,a',w₃,l',hq,hs⟩:=dD hQ rest _ _ hR b k cs hro;refine⟨ch,a',w₃,l',hq,.head fW qQ (StepsIn.trans qT ?_)⟩;rw[iW];exact hs
    ·rename_i l f tmps assign body w' hr';obtain⟨_,_,h⟩:=h;obtain⟨e,w'',hR,qT⟩:=h (b.atR a (.inRegion ops (i::rest)::k)) cs (hroom _);have qQ:step P (lone (b.atR a (.inRegion ops (i::rest)::k)) cs w)=
       .next (lone (Frame.round l f tmps assign body .normal) (b.atR a (.inRegion ops (i::rest)::k)::cs) w'):=
      step_lone_go (by rw[hg];simp[stepG.apply,hr',Frame.atR])
     cases e with
     |returned v=>
      obtain⟨ch,a',w₃,l',hq,hs⟩:=dD hQ rest _ _ hR b k cs hro;refine⟨ch,a',w₃,l',hq,.head fW qQ (StepsIn.trans qT ?_)⟩;simp only[];rw[iW];exact hs
     |panicked chain=>
      refine⟨chain,a,w'',i::rest,hR,.head fW qQ qT⟩
     |outgrown=>
      obtain⟨a₀,w₀,hq⟩:=hR;obtain⟨ch,hc⟩:=hQ _ _ _ hq;simp at hc
    ·rename_i v w' hr';refine⟨_,a,w',i::rest,h,.one fW (step_lone_go ?_)⟩;rw[hg,←Frame.raise_atR];simp[stepG.apply,hr']
    ·exact h.elim
   ·simp only[hw,if_false,Bool.false_eq_true] at h;obtain⟨_,h⟩:=h;obtain⟨ch,a',w',l',hq,hs⟩:=dD hQ rest _ _ h b k cs hro;have s1:=stepR_op_skip (P:=P) (b:=b) (a:=a) (k:=k) (cs:=cs) (w:=w) (ops:=ops) (i:=i) (rest:=rest)
     (by simp[ho];simpa using hw)
    simp only[ho,Option.bind_some] at s1;exact⟨ch,a',w',l',hq,.head fW s1 hs⟩
theorem step_scope{b:Frame}{c:Code}{k:List Item}{cs:List Frame}:step P (lone (b.atR a (.code (.scope c)::k)) cs w)=.next (lone (b.atR a (.code c::.inScope c::k)) cs w):=
 step_lone_go (by simp[stepG,stepG.exec,Frame.atR])
def qn(ro:Option Nat)(P:Program)(code:Code)(Q:List PanicEntry→Act→World→Prop)(a:Act)(w:World):Prop:=
 ∀(b:Frame) (k:List Item) (cs:List Frame),b.roundOf=ro→∃ch a' w' ops l' k',Q ch a' w'∧
  StepsIn (Machine.fenced P (FW ro)) P (lone (b.atR a (.code code::k)) cs w) (lone {b.atR a' (.inRegion ops l'::k') with mode:=.panicking ch} cs w')
theorem ny{code c:Code}{Q:List PanicEntry→Act→World→Prop}(hs:∀(b:Frame) (k:List Item) (cs:List Frame),∃k',step P (lone (b.atR a (.code code::k)) cs w)=.next (lone (b.atR a (.code c::k')) cs w))
  (hp:qn ro P c Q a w):qn ro P code Q a w:=by
 intro b k cs hro;obtain⟨k0,h0⟩:=hs b k cs;obtain⟨ch,a',w',ops,l',k',hq,hst⟩:=hp b k0 cs hro;exact⟨ch,a',w',ops,l',k',hq,.head fW h0 hst⟩
theorem FA{x y:Code}{Q:List PanicEntry→Act→World→Prop}(hx:x.wpIn (FW ro) n P (fun ex a' w'=>ex=.normal∧qn ro P y Q a' w') a w):qn ro P (.seq x y) Q a w:=by
 intro b k cs hro;obtain⟨ex,a1,w1,⟨rfl,hy⟩,gW⟩:=hx b (.code y::k) cs hro (by cases ro<;>trivial) (fun d hd=>by simp[FW,Fence.wide] at hd);obtain⟨ch,a',w',ops,l',k',hq,hst⟩:=hy b k cs hro;exact⟨ch,a',w',ops,l',k',hq,.head fW stepR_seq (StepsIn.trans gW hst)⟩
def Es(P:Program)(H0:Nat)(ρ:cC)(D:Dom)(h:Heap)(w:World)(v:AV)(h2:Heap):List PanicEntry→Act→World→Prop:=fun ch a' w'=>
 a'.defers=[]∧∃ρ',ch=[{v:=real ρ' v,recovered:=false}]∧Inv P H0 ρ' (grow D h.next h2.next) h2 w'∧Ext ρ D h w ρ' h2 w'∧v.aU (grow D h.next h2.next)
theorem Fz{l1 l2:List bt}{i:bt}{tr:List aJ}{v:AV}(kj:OT P H0 l1 e h tr e' h')(hw0:bV i e'=true)(hop:i.op≠.bad∧me P H0 i.op (i.args.map e'.ev) h' v h2):∀{code:Code},aB P code=.ops (l1++i::l2)→
  cW N (l1++i::l2)=true→∀{a:Act},Inv P H0 ρ D h w→bG ρ D N e a→a.defers=[]→qn ro P code (Es P H0 ρ D h w v h2) a w:=by
 intro code;induction code with
 |scope c' ih=>
  intro hc hN a hi he hd;exact ny (c:=c') (fun b k cs=>⟨_,step_scope⟩) (ih (by simpa[aB] using hc) hN hi he hd)
 |region id os draw=>
  intro hc hN a hi he hd b k cs hro;obtain⟨id',os',hcd,hos⟩:=dR (code:=.region id os draw) rfl hc;simp only[Code.region.injEq] at hcd;obtain⟨_,rfl,rfl⟩:=hcd;rw[pW,Bool.and_eq_true] at hN;have hl:wpListIn (FW ro) 0 P os (fun ex a' w'=>∃ch,ex=.panic ch∧Es P H0 ρ D h w v h2 ch a' w') os.toList a w:=by
   refine jR kj hw0 hop.1 hop.2 hos hN.1 hi he ?_;intro ρ' w' a' g1 g2 g3 g4 g5;exact⟨_,rfl,g4.trans hd,ρ',rfl,g1,g2,g5⟩
  have So:wpOpsIn (FW ro) 0 P os (fun ex a' w'=>∃ch,ex=.panic ch∧Es P H0 ρ D h w v h2 ch a' w') (List.range os.size) a w:=by
   rw[List.range_eq_range',←Array.length_toList,wpOpsIn_eq_wpListIn os.toList 0 (by simp)];exact hl
  obtain⟨ch,a',w',l',⟨ch',WR,hq⟩,hst⟩:=dD (fun e a w hh=>by obtain⟨ch,hc,_⟩:=hh;exact⟨ch,hc⟩) _ a w So b k cs hro;cases WR
  exact⟨ch,a',w',os,l',k,hq,.head fW stepR_region hst⟩
 |_=>intro hc;obtain⟨_,_,hcd,_⟩:=dR rfl hc;simp at hcd
theorem CD{A B:AC}{v:AV}{e1:Env}(hA:bJ P H0 true A e h .normal e1 h1)(DD:aZ A=true)
  (hB:∀{code:Code},aB P code=B→codeOk N B=true→∀{ρ:cC} {D:Dom} {w:World} {a:Act},Inv P H0 ρ D h1 w→bG ρ D N e1 a→a.defers=[]→qn (some n) P code (Es P H0 ρ D h1 w v h2) a w):
  ∀{code:Code},aB P code=.seq A B→codeOk N (.seq A B)=true→∀{a:Act},Inv P H0 ρ D h w→bG ρ D N e a→a.defers=[]→qn (some n) P code (Es P H0 ρ D h w v h2) a w:=by
 intro code;induction code with
 |scope c' ih=>
  intro hc hN a hi he hd;exact ny (c:=c') (fun b k cs=>⟨_,step_scope⟩) (ih (by simpa[aB] using hc) hN hi he hd)
 |seq x y _ _=>
  intro hc hN a hi he hd;simp only[aB,AC.seq.injEq] at hc;simp only[codeOk,Bool.and_eq_true] at hN;refine FA (n:=0) ?_;have hm0:jq [] w.heap.size ρ D h w a.defers:=⟨[],by rw[hd];rfl,List.nodup_nil,fun r hr=>by simp at hr⟩;refine Code.wpIn_mono ?_ (hA x hc.1 N hN.1 (some n) rfl ρ D w a w.heap.size 0 [] hi he hm0 (Nat.le_refl _));rintro ex a' w' ⟨ρ',hex,g1,g2,g3,g4,g5⟩;refine⟨hex,?_⟩;intro b k cs hro;obtain⟨ch,a2,w2,ops,l',k',⟨q1,iK,q2,q3,q4,q5⟩,hst⟩:=hB hc.2 hN.2 g1 g3 ((g5 DD).trans hd) b k cs hro;have hn2:=q4.next;rw[dK D g2.next hn2] at q3 q5;exact⟨ch,a2,w2,ops,l',k',⟨q1,iK,q2,q3,Ext.trans hi.lt g2 q4,q5⟩,hst⟩
 |_=>intro hc hN;obtain⟨_,_,hcd,_⟩:=fF rfl hc;simp at hcd
theorem Bi{id:Nat}{c:AC}{Q:List PanicEntry→Act→World→Prop}(hB:∀{code:Code},aB P code=c→qn ro P code Q a w):∀{code:Code},aB P code=.block id c→qn ro P code Q a w:=by
 intro code;induction code with
 |scope c' ih=>
  intro hc;exact ny (c:=c') (fun b k cs=>⟨_,step_scope⟩) (ih (by simpa[aB] using hc))
 |block i x _=>
  intro hc;simp only[aB,AC.block.injEq] at hc;exact ny (c:=x) (fun b k cs=>⟨_,stepR_block⟩) (hB hc.2)
 |_=>intro hc;obtain⟨_,hcd,_⟩:=iT rfl hc;simp at hcd
theorem CP{L:Nat}{args:List AV}{cA cn:Option AX}{ps:List Nat}{x A:AC}{id:Nat}{l1 l2:List bt}{i:bt}{e2 e3 e4:Env}{h3 h4 h5:Heap}{tr:List aJ}{v:AV}
  (hg:h.get L=some (.loop 0 cA e ps x (.block id (.seq A (.ops (l1++i::l2))))))(hlen:args.length=ps.length)(AT:bJ P H0 true x (fI ps args e) h .normal e2 h2)(mh:aZ x=true)
  (AI:h2.get L=some (.loop 0 cn e ps x (.block id (.seq A (.ops (l1++i::l2))))))(DD:aZ A=true)
  (hA:bJ P H0 true A e2 (h2.set L (.loop 1 cn e ps x (.block id (.seq A (.ops (l1++i::l2)))))) .normal e3 h3)
  (kj:OT P H0 l1 e3 h3 tr e4 h4)(hw0:bV i e4=true)(hop:i.op≠.bad∧me P H0 i.op (i.args.map e4.ev) h4 v h5):pq P H0 (.yield L) args h v h5:=by
 generalize hy:(AC.block id (.seq A (.ops (l1++i::l2))))=y at*;intro ρ D w hi hf hd o a ro n next Q hk
 simp only[AV.aU] at hf;obtain⟨_,r,hr,hst,hpd,Xv,vm,hps,hca,hcb,Ph,Pj,OR⟩:=hi.bH L _ hf hg;have hsz:args.length=r.params.size:=by rw[hlen,←hps];simp
 have hrun:((do let d ←Deferred.ofValue (real ρ (.yield L)) (an ρ args).toArray;invoke d.target d.args:Sem Next).run P w)=
   .ok (.round (ρ L).bH r.fn ((ps.zip (an ρ args)).foldl (fun tmps p=>tmps.setIfInBounds p.1 p.2) r.tmps) r.assign r.body) w:=by
  simp only[real,Deferred.ofValue,Sem.run_bind,Sem.run_pure,Result.andThen,invoke,Instr.yield,run_getLoop hr];rw[if_neg (by simp[aN,hsz])];simp only[Sem.run_pure]
  congr 2
  rw[←hps];rw[←Array.foldl_toList];simp
 rw[hrun];refine⟨fun hh=>by simp[FW,Fence.wide] at hh,trivial,fun c cs _=>?_⟩;have O0:=oS (ρ:=ρ) (D:=D) (ps:=ps) (args:=args) (e:=e) (tmps:=r.tmps) hlen.symm OR rfl Xv vm hd;have hm0:jq [] w.heap.size ρ D h w ([]:List Deferred):=⟨[],rfl,List.nodup_nil,fun r hr=>by simp at hr⟩
 let b:Frame:={(default:Frame) with fn:=r.fn,kind:=.normal,roundOf:=some (ρ L).bH}
 have hb0:Frame.round (ρ L).bH r.fn ((ps.zip (an ρ args)).foldl (fun tmps p=>tmps.setIfInBounds p.1 p.2) r.tmps) r.assign r.body .normal=b.atR {tmps:=(ps.zip (an ρ args)).foldl (fun tmps p=>tmps.setIfInBounds p.1 p.2) r.tmps,defers:=[]} [.code r.assign,.beginRound,.code r.body]:=by
  simp[Frame.round,Frame.atR,b]
 obtain⟨ex,a1,w1,⟨pn,hex,i1,x1,EU,m1,nd1⟩,gW⟩:=AT r.assign hca r.tmps.size Ph (some (ρ L).bH) rfl ρ D w _ w.heap.size 0 [] hi O0 hm0 (Nat.le_refl _) b [.beginRound,.code r.body] (c::cs) rfl trivial (fun d hd=>by simp[FW,Fence.wide] at hd);have hex:ex=.normal:=hex;subst hex;have E6:a1.defers=[]:=nd1 mh;have FX:grow D h.next h2.next L:=.inl hf;have uk:=x1.bx L hf;obtain⟨_,r1,zE,Ic,Pn,Px,O2,Po,OU,OX,HP,HS,HC⟩:=i1.bH L _ FX AI;have xO:=r6 i1 FX AI zE (st':=1) (kF:=cn) (r':={r1 with state:=.busy}) ⟨rfl,Pn,Px,O2,Po,OU,OX,HP,HS,HC⟩;have Ie:r1.state=.ready:=Ic;have wS:(Instr.beginRound (ρ L).bH).run P w1=.ok () (setRow w1 (pn L).bH (.loop {r1 with state:=.busy})):=by
  rw[←uk];simp only[Instr.beginRound,Sem.run_bind,run_getLoop zE,Result.andThen,nJ zE (fun _ _ _=>by simp),Ie,Sem.run_pure]
 have hi1:=xO.1;have hx1:=xO.2;have hbody:qn (some (ρ L).bH) P r.body (Es P H0 pn (grow D h.next h2.next) (h2.set L (.loop 1 cn e ps x y)) (setRow w1 (pn L).bH (.loop {r1 with state:=.busy})) v h5) a1 (setRow w1 (pn L).bH (.loop {r1 with state:=.busy})):=by
  subst hy;refine Bi (fun{code} hc=>?_) hcb;exact CD hA DD (fun{code} hc hN {ρ D w a} gi ge gd=>Fz kj hw0 hop hc hN gi ge gd) hc Pj hi1 EU E6
 obtain⟨ch,a2,w2,ops,l',k',⟨q1,iK,q2,q3,q4,q5⟩,hst⟩:=hbody b [] (c::cs) rfl;subst q2;have g1:=x1.next;have g2:=q4.next;rw[show(h2.set L (.loop 1 cn e ps x y)).next=h2.next from rfl] at g2 q3 q5;rw[dK D g1 g2] at q3 q5;have xb:Ext pn (grow D h.next h2.next) h2 w1 iK h5 w2:=Ext.trans i1.lt hx1 (by
  rw[show(h2.set L (.loop 1 cn e ps x y)).next=h2.next from rfl,bl];exact q4)
 refine⟨.panicked [{v:=real iK v,recovered:=false}],w2,hk iK w2 q3 (Ext.trans hi.lt x1 xb) q5,?_⟩;show StepsIn _ P _ _;rw[hb0];refine StepsIn.trans gW (.head fW (stepR_beginRound rfl wS) (StepsIn.trans hst (.one fW ?_)));exact step_lone_go (by cases hq:P.funcs[r.fn]?<;>simp[stepG,unwind,Frame.catches,Frame.atR,q1,b,hq])
theorem CO{g:bC}{ps:List Nat}{x y:AC}{f:Nat}{first aF:List AV}{v:AV}(hg:e.ev g=.func (.func f) first aF)
  (hc:mw P H0 f (first++(.yield h.next::aF)) (h.new (.loop 0 none e ps x y)) v h2)(ta:∀(args:Array Value) (w:World),(callFunc f args).run P w=.ok (.enter f args) w):
  bJ P H0 false (.rangeFunc g ps x y) e h (.panic v) e h2:=by
 refine cG fun code hs gw N hN ro hro ρ D w a W0 n tl hi he hm hW=>?_;obtain⟨gq,qs,cx,cy,rfl,UB,Xr,hx,hy⟩:=oq hs gw;have yV:ro=none:=by cases ro<;>simp_all
 subst yV;simp only[codeOk,Bool.and_eq_true] at hN;refine wpIn_rangeFunc ?_;intro fn _
 let wd:=w.alloc (.deferred (some []))
 have hwd:wd.heap.size=w.heap.size+1:=by show(w.heap.push _).size=_;simp
 let lp:Loop:={state:=.ready,pending:=none,fn:=fn,tmps:=a.tmps,params:=qs,assign:=cx,body:=cy,defers:=w.heap.size}
 have vt:=A1 hi (.deferred (some []));have HB:∀b,D b→gY ρ h.next ⟨wd.heap.size,0,0⟩ b=ρ b:=fun b hb=>jO _ _ (by have:=hi.lt b hb;omega);have tL:bG (gY ρ h.next ⟨wd.heap.size,0,0⟩) (grow D h.next (h.next+1)) N e a:=he.mono HB (fun _=>.inl);have hnew:=oY (w:=wd) (w':=wd.alloc (.loop lp)) vt.1 (.loop 0 none e ps x y) 0 (.loop lp) rfl rfl rfl rfl
  ⟨vt.1.low,lp,jE wd _,rfl,rfl,tL.get,tL.dom,Xr,hx,hy,by rw[show lp.tmps.size=N from he.size];exact hN.1.2,by rw[show lp.tmps.size=N from he.size];exact hN.2,by rw[show lp.tmps.size=N from he.size];exact hN.1.1⟩
 have AH:Ext ρ D h w (gY ρ h.next ⟨wd.heap.size,0,0⟩) (h.new (.loop 0 none e ps x y)) (wd.alloc (.loop lp)):=Ext.trans hi.lt vt.2 (by rw[bl];exact hnew.2);have vq:=aC tL UB;rw[hg] at vq;simp only[AV.aU] at vq;refine⟨wd.heap.size,[{target:=.collected w.heap.size,args:=#[]}],wd.alloc (.loop lp),{target:=.fn (.func f) (an (gY ρ h.next ⟨wd.heap.size,0,0⟩) aF).toArray,args:=(an (gY ρ h.next ⟨wd.heap.size,0,0⟩) first).toArray++#[.func (.yield wd.heap.size) #[] #[]]},wd.alloc (.loop lp),f,
  (an (gY ρ h.next ⟨wd.heap.size,0,0⟩) (first++(.yield h.next::aF))).toArray,wd.alloc (.loop lp),?_,?_,fun _ _=>trivial,?_,fun hh=>by simp[FW,Fence.wide] at hh,?_⟩
 ·show(Instr.enterLoop fn a.tmps qs cx cy none).run P w=_;simp only[Instr.enterLoop,Sem.run_bind,run_newObj_alloc,Result.andThen,Sem.run_pure];rfl
 ·simp only[resolve];rw[show a.eval gq=real (gY ρ h.next ⟨wd.heap.size,0,0⟩) (.func (.func f) first aF) from vq.1];simp[Deferred.ofValue,real,Act.eval]
 ·simp only[invoke,ta]
  congr 2
  have:real (gY ρ h.next ⟨wd.heap.size,0,0⟩) (.yield h.next)=.func (.yield wd.heap.size) #[] #[]:=by simp[real,bM]
  simp[gX,an,this]
 ·have hda:bf (grow D h.next (h.next+1)) (first++(.yield h.next::aF)):=by
   rw[aP];intro z hz;rcases List.mem_append.1 hz with hz|hz
   ·exact(aP _ _).1 vq.2.2.1 z hz
   ·rcases List.mem_cons.1 hz with hz|hz
    ·rw[hz];simp only[AV.aU];exact .inr ⟨Nat.le_refl _,by omega⟩
    ·exact(aP _ _).1 vq.2.2.2 z hz
  refine CallsIn.mono (hc (gY ρ h.next ⟨wd.heap.size,0,0⟩) (grow D h.next (h.next+1)) (wd.alloc (.loop lp)) (n-1) hnew.1 hda) ?_;rintro en w3 ⟨iK,rfl,i2,x2,J7⟩;have mh:(h.new (.loop 0 none e ps x y)).next=h.next+1:=rfl
  rw[mh] at i2 J7;have hn2:h.next+1≤h2.next:=by have:=x2.next;rw[mh] at this;exact this
  have JO:=Ext.trans hi.lt AH (by rw[mh];exact x2);have HJ:=dK D (show h.next≤h.next+1 by omega) hn2;rw[HJ] at i2 J7;have Oz:bG iK (grow D h.next h2.next) N e {a with defers:=[{target:=.collected w.heap.size,args:=#[]}]++a.defers}:=by
   have:=he.mono (ρ':=iK) (D':=grow D h.next h2.next) (fun b hb=>JO.bx b hb) (fun _=>.inl);exact⟨this.size,this.get,this.dom⟩
  have Qa:jq tl W0 iK (grow D h.next h2.next) h2 w3 ([{target:=.collected w.heap.size,args:=#[]}]++a.defers):=by
   have m1:jq tl W0 (gY ρ h.next ⟨wd.heap.size,0,0⟩) (grow D h.next (h.next+1)) (h.new (.loop 0 none e ps x y)) (wd.alloc (.loop lp)) ([{target:=.collected w.heap.size,args:=#[]}]++a.defers):=by
    obtain⟨rs,q1,q2,q3⟩:=hm.ext hi.lt AH;rw[mh] at q3;refine⟨w.heap.size::rs,by rw[q1];rfl,?_,?_⟩
    ·refine List.nodup_cons.2 ⟨?_,q2⟩;intro hmem;obtain⟨rs',XQ,q2',XR⟩:=hm;have:rs=rs':=by
      have he:=q1.symm.trans XQ;have he:=List.append_cancel_right he;have hinj:=congrArg (List.map (fun d:Deferred=>match d.target with|.collected r=>r|_=>0)) he;simpa[marksOf,Function.comp_def] using hinj
     rw[this] at hmem;have:=(Array.getElem?_eq_some_iff.1 (XR _ hmem).2.1).1;omega
    ·intro r hr;rcases List.mem_cons.1 hr with rfl|hr
     ·refine⟨hW,?_,?_⟩
      ·show((w.heap.push _).push _)[w.heap.size]?=_;rw[Array.getElem?_push,if_neg (by simp),Array.getElem?_push,if_pos rfl]
      ·rintro b (hb|⟨qj,jG⟩) hn
       ·rw[HB b hb];rw[Heap.bQ,if_neg (by have:=hi.lt b hb;omega)] at hn;have:=hi.MC hb hn;omega
       ·have:b=h.next:=by omega
        subst this;rw[bM];simp only;omega
     ·exact q3 r hr
   have:=m1.ext hnew.1.lt x2;rw[mh] at this;rw[←HJ];exact this
  exact⟨iK,⟨rfl,J7⟩,i2,JO,Oz,Qa,fun hn=>by simp[aZ] at hn⟩
end
end Ads
end Go.Proofs.YtnlcabhfkpafmaaGreat
