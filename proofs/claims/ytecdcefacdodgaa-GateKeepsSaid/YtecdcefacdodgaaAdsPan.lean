/-
  What big steps mean in the model: a round of a range over a function that panics.
-/
import Derived.Test.YtecdcefacdodgaaAdsRange
set_option linter.unusedSimpArgs false
set_option linter.unusedVariables false
namespace Go.Proofs.Ytecdcefacdodgaa
namespace Ads
section
variable {P:Program} {H0 W0:Nat} {ρ ρ':cn} {D D':Dom} {h h' h1 h2:Heap} {w w':World} {N n:Nat} {env e e':Env} {a:Act} {ro:Option Nat} {rd:Bool}
theorem fD{m:Machine}:m.fenced P (FW ro):=by
 have:=fenced_wide P m;cases ro with
 |none=>exact this
 |some l=>exact this
theorem dc{ops:Array Oper}{Q:Exit→Act→World→Prop}(hQ:∀e a w,Q e a w→∃ch,e=.panic ch):∀(l:List Nat) (a:Act) (w:World),wpOpsIn (FW ro) n P ops Q l a w→
  ∀(b:Frame) (k:List Item) (cs:List Frame),b.roundOf=ro→∃ch a' w' l',Q (.panic ch) a' w'∧
   StepsIn (Machine.fenced P (FW ro)) P (lone (b.atR a (.inRegion ops l::k)) cs w) (lone {b.atR a' (.inRegion ops l'::k) with mode:=.panicking ch} cs w')
 |[],a,w,h,b,k,cs,hro=>by
  obtain⟨ch,hc⟩:=hQ _ _ _ h;simp at hc
 |i::rest,a,w,h,b,k,cs,hro=>by
  have hroom:∀m,(FW ro).room m:=fun m d hd=>by simp[FW,Fence.wide] at hd
  simp only[wpOpsIn] at h;cases ho:ops[i]? with
  |none=>
   simp only[ho] at h;obtain⟨ch,a',w',l',hq,hs⟩:=dc hQ rest a w h b k cs hro;have s1:=stepR_op_skip (P:=P) (b:=b) (a:=a) (k:=k) (cs:=cs) (w:=w) (ops:=ops) (i:=i) (rest:=rest) (by simp[ho]);simp only[ho,Option.bind_none,Act.put] at s1;exact⟨ch,a',w',l',hq,.head fD s1 hs⟩
  |some o=>
   simp only[ho] at h;by_cases hw:Region.wanted o (yielded ops a.tmps)=true
   ·simp only[hw,if_true,Oper.wpIn] at h;obtain⟨_,h⟩:=h;have hg:=stepGR_op (P:=P) (b:=b) (k:=k) (cs:=cs) (w:=w) (rest:=rest) ho hw;rw[hro] at hg;have kH:∀v,(b.atR a (.inRegion ops (i::rest)::k)).finish v=b.atR (a.put o.dst v) (.inRegion ops rest::k):=by
     intro v;rw[Frame.finish_atR,ho];rfl
    have O4:(FW ro).round=ro:=rfl;rw[O4] at h;simp only[Oper.uponIn] at h;split at h
    ·rename_i v w' hr';obtain⟨ch,a',w'',l',hq,hs⟩:=dc hQ rest _ _ h b k cs hro;refine⟨ch,a',w'',l',hq,.head fD (step_lone_go ?_) hs⟩;rw[hg,←kH];simp[stepG.apply,hr']
    ·rename_i w' hr';obtain⟨ch,a',w'',l',hq,hs⟩:=dc hQ rest _ _ h b k cs hro;refine⟨ch,a',w'',l',hq,.head fD (step_lone_go ?_) hs⟩;rw[hg,←kH];simp[stepG.apply,hr']
    ·rename_i d w' hr';obtain⟨ch,a',w'',l',hq,hs⟩:=dc hQ rest _ _ h b k cs hro;refine⟨ch,a',w'',l',hq,.head fD (step_lone_go ?_) hs⟩;have:({b.atR a (.inRegion ops (i::rest)::k) with defers:=d::a.defers}:Frame).finish undef=
       b.atR ({a with defers:=d::a.defers}.put o.dst undef) (.inRegion ops rest::k):=by
      have:=Frame.finish_atR b {a with defers:=d::a.defers} ops i rest k undef;rw[ho] at this;exact this
     rw[hg];simp only[stepG.apply,Sem.runT_eq,hr',GStep.bare_after];exact congrArg (fun fr=>GStep.go {frame:=fr,callers:=cs,status:=.running,dying:=none} w') this
    ·rename_i f args w' hr';obtain⟨_,_,h⟩:=h;obtain⟨e,w'',fr,hR,q8,hfn,IA⟩:=h (b.atR a (.inRegion ops (i::rest)::k)::cs) (hroom _);have q6:step P (lone (b.atR a (.inRegion ops (i::rest)::k)) cs w)=
       .next (lone (Frame.enter P f args .normal) (b.atR a (.inRegion ops (i::rest)::k)::cs) w'):=
      step_lone_go (by rw[hg];simp[stepG.apply,hr',Frame.atR])
     cases e with
     |returned v=>
      obtain⟨ch,a',w₃,l',hq,hs⟩:=dc hQ rest _ _ hR b k cs hro;refine⟨ch,a',w₃,l',hq,.head fD q6 (StepsIn.trans q8 (.head fD ?_ hs))⟩;rw[←kH];exact step_leave_returned IA
     |panicked chain=>
      refine⟨chain,a,w'',i::rest,hR,.head fD q6 (StepsIn.trans q8 (.one fD ?_))⟩;rw[←Frame.raise_atR];exact step_leave_panicked IA
     |outgrown=>
      obtain⟨a₀,w₀,hq⟩:=hR;obtain⟨ch,hc⟩:=hQ _ _ _ hq;simp at hc
    ·rename_i row args w' hr';obtain⟨_,h⟩:=h;obtain⟨v,w'',hR,q8⟩:=h (b.atR a (.inRegion ops (i::rest)::k)) cs (hroom _);have q6:step P (lone (b.atR a (.inRegion ops (i::rest)::k)) cs w)=
       .next (lone (Frame.ofRow P row args .normal) (b.atR a (.inRegion ops (i::rest)::k)::cs) w'):=
      step_lone_go (by rw[hg];simp[stepG.apply,hr',Frame.atR])
     obtain⟨ch,a',w₃,l',hq,hs⟩:=dc hQ rest _ _ hR b k cs hro;refine⟨ch,a',w₃,l',hq,.head fD q6 (StepsIn.trans q8 ?_)⟩;rw[kH];exact hs
    ·rename_i l f tmps assign body w' hr';obtain⟨_,_,h⟩:=h;obtain⟨e,w'',hR,q8⟩:=h (b.atR a (.inRegion ops (i::rest)::k)) cs (hroom _);have q6:step P (lone (b.atR a (.inRegion ops (i::rest)::k)) cs w)=
       .next (lone (Frame.round l f tmps assign body .normal) (b.atR a (.inRegion ops (i::rest)::k)::cs) w'):=
      step_lone_go (by rw[hg];simp[stepG.apply,hr',Frame.atR])
     cases e with
     |returned v=>
      obtain⟨ch,a',w₃,l',hq,hs⟩:=dc hQ rest _ _ hR b k cs hro;refine⟨ch,a',w₃,l',hq,.head fD q6 (StepsIn.trans q8 ?_)⟩;simp only[];rw[kH];exact hs
     |panicked chain=>
      refine⟨chain,a,w'',i::rest,hR,.head fD q6 q8⟩
     |outgrown=>
      obtain⟨a₀,w₀,hq⟩:=hR;obtain⟨ch,hc⟩:=hQ _ _ _ hq;simp at hc
    ·rename_i v w' hr';refine⟨_,a,w',i::rest,h,.one fD (step_lone_go ?_)⟩;rw[hg,←Frame.raise_atR];simp[stepG.apply,hr']
    ·exact h.elim
   ·simp only[hw,if_false,Bool.false_eq_true] at h;obtain⟨_,h⟩:=h;obtain⟨ch,a',w',l',hq,hs⟩:=dc hQ rest _ _ h b k cs hro;have s1:=stepR_op_skip (P:=P) (b:=b) (a:=a) (k:=k) (cs:=cs) (w:=w) (ops:=ops) (i:=i) (rest:=rest)
     (by simp[ho];simpa using hw)
    simp only[ho,Option.bind_some] at s1;exact⟨ch,a',w',l',hq,.head fD s1 hs⟩
theorem step_scope{b:Frame}{c:Code}{k:List Item}{cs:List Frame}:step P (lone (b.atR a (.code (.scope c)::k)) cs w)=.next (lone (b.atR a (.code c::.inScope c::k)) cs w):=
 step_lone_go (by simp[stepG,stepG.exec,Frame.atR])
def qF(ro:Option Nat)(P:Program)(code:Code)(Q:List PanicEntry→Act→World→Prop)(a:Act)(w:World):Prop:=
 ∀(b:Frame) (k:List Item) (cs:List Frame),b.roundOf=ro→∃ch a' w' ops l' k',Q ch a' w'∧
  StepsIn (Machine.fenced P (FW ro)) P (lone (b.atR a (.code code::k)) cs w) (lone {b.atR a' (.inRegion ops l'::k') with mode:=.panicking ch} cs w')
theorem nM{code c:Code}{Q:List PanicEntry→Act→World→Prop}(hs:∀(b:Frame) (k:List Item) (cs:List Frame),∃k',step P (lone (b.atR a (.code code::k)) cs w)=.next (lone (b.atR a (.code c::k')) cs w))
  (hp:qF ro P c Q a w):qF ro P code Q a w:=by
 intro b k cs hro;obtain⟨k0,h0⟩:=hs b k cs;obtain⟨ch,a',w',ops,l',k',hq,hst⟩:=hp b k0 cs hro;exact⟨ch,a',w',ops,l',k',hq,.head fD h0 hst⟩
theorem Gq{x y:Code}{Q:List PanicEntry→Act→World→Prop}(hx:x.wpIn (FW ro) n P (fun ex a' w'=>ex=.normal∧qF ro P y Q a' w') a w):qF ro P (.seq x y) Q a w:=by
 intro b k cs hro;obtain⟨ex,a1,w1,⟨rfl,hy⟩,fN⟩:=hx b (.code y::k) cs hro (by cases ro<;>trivial) (fun d hd=>by simp[FW,Fence.wide] at hd);obtain⟨ch,a',w',ops,l',k',hq,hst⟩:=hy b k cs hro;exact⟨ch,a',w',ops,l',k',hq,.head fD stepR_seq (StepsIn.trans fN hst)⟩
def FA(P:Program)(H0:Nat)(ρ:cn)(D:Dom)(h:Heap)(w:World)(v:AV)(h2:Heap):List PanicEntry→Act→World→Prop:=fun ch a' w'=>
 a'.defers=[]∧∃ρ',ch=[{v:=real ρ' v,recovered:=false}]∧Inv P H0 ρ' (grow D h.next h2.next) h2 w'∧Ext ρ D h w ρ' h2 w'∧v.aP (grow D h.next h2.next)
theorem Gp{l1 l2:List bh}{i:bh}{tr:List aG}{v:AV}(j7:OT P H0 l1 e h tr e' h')(hw0:bF i e'=true)(hop:i.op≠.bad∧mF P H0 i.op (i.args.map e'.ev) h' v h2):∀{code:Code},ay P code=.ops (l1++i::l2)→
  cP N (l1++i::l2)=true→∀{a:Act},Inv P H0 ρ D h w→bz ρ D N e a→a.defers=[]→qF ro P code (FA P H0 ρ D h w v h2) a w:=by
 intro code;induction code with
 |scope c' ih=>
  intro hc hN a hi he hd;exact nM (c:=c') (fun b k cs=>⟨_,step_scope⟩) (ih (by simpa[ay] using hc) hN hi he hd)
 |region id os draw=>
  intro hc hN a hi he hd b k cs hro;obtain⟨id',os',hcd,hos⟩:=dD (code:=.region id os draw) rfl hc;simp only[Code.region.injEq] at hcd;obtain⟨_,rfl,rfl⟩:=hcd;rw[qe,Bool.and_eq_true] at hN;have hl:wpListIn (FW ro) 0 P os (fun ex a' w'=>∃ch,ex=.panic ch∧FA P H0 ρ D h w v h2 ch a' w') os.toList a w:=by
   refine jI j7 hw0 hop.1 hop.2 hos hN.1 hi he ?_;intro ρ' w' a' g1 g2 g3 g4 g5;exact⟨_,rfl,g4.trans hd,ρ',rfl,g1,g2,g5⟩
  have Nw:wpOpsIn (FW ro) 0 P os (fun ex a' w'=>∃ch,ex=.panic ch∧FA P H0 ρ D h w v h2 ch a' w') (List.range os.size) a w:=by
   rw[List.range_eq_range',←Array.length_toList,wpOpsIn_eq_wpListIn os.toList 0 (by simp)];exact hl
  obtain⟨ch,a',w',l',⟨ch',VB,hq⟩,hst⟩:=dc (fun e a w hh=>by obtain⟨ch,hc,_⟩:=hh;exact⟨ch,hc⟩) _ a w Nw b k cs hro;cases VB
  exact⟨ch,a',w',os,l',k,hq,.head fD stepR_region hst⟩
 |_=>intro hc;obtain⟨_,_,hcd,_⟩:=dD rfl hc;simp at hcd
theorem DQ{A B:AC}{v:AV}{e1:Env}(hA:bu P H0 true A e h .normal e1 h1)(EY:aR A=true)
  (hB:∀{code:Code},ay P code=B→codeOk N B=true→∀{ρ:cn} {D:Dom} {w:World} {a:Act},Inv P H0 ρ D h1 w→bz ρ D N e1 a→a.defers=[]→qF (some n) P code (FA P H0 ρ D h1 w v h2) a w):
  ∀{code:Code},ay P code=.seq A B→codeOk N (.seq A B)=true→∀{a:Act},Inv P H0 ρ D h w→bz ρ D N e a→a.defers=[]→qF (some n) P code (FA P H0 ρ D h w v h2) a w:=by
 intro code;induction code with
 |scope c' ih=>
  intro hc hN a hi he hd;exact nM (c:=c') (fun b k cs=>⟨_,step_scope⟩) (ih (by simpa[ay] using hc) hN hi he hd)
 |seq x y _ _=>
  intro hc hN a hi he hd;simp only[ay,AC.seq.injEq] at hc;simp only[codeOk,Bool.and_eq_true] at hN;refine Gq (n:=0) ?_;have hm0:iG [] w.heap.size ρ D h w a.defers:=⟨[],by rw[hd];rfl,List.nodup_nil,fun r hr=>by simp at hr⟩;refine Code.wpIn_mono ?_ (hA x hc.1 N hN.1 (some n) rfl ρ D w a w.heap.size 0 [] hi he hm0 (Nat.le_refl _));rintro ex a' w' ⟨ρ',hex,g1,g2,g3,g4,g5⟩;refine⟨hex,?_⟩;intro b k cs hro;obtain⟨ch,a2,w2,ops,l',k',⟨q1,ir,q2,q3,q4,q5⟩,hst⟩:=hB hc.2 hN.2 g1 g3 ((g5 EY).trans hd) b k cs hro;have hn2:=q4.next;rw[dh D g2.next hn2] at q3 q5;exact⟨ch,a2,w2,ops,l',k',⟨q1,ir,q2,q3,Ext.trans hi.lt g2 q4,q5⟩,hst⟩
 |_=>intro hc hN;obtain⟨_,_,hcd,_⟩:=eT rfl hc;simp at hcd
theorem B6{id:Nat}{c:AC}{Q:List PanicEntry→Act→World→Prop}(hB:∀{code:Code},ay P code=c→qF ro P code Q a w):∀{code:Code},ay P code=.block id c→qF ro P code Q a w:=by
 intro code;induction code with
 |scope c' ih=>
  intro hc;exact nM (c:=c') (fun b k cs=>⟨_,step_scope⟩) (ih (by simpa[ay] using hc))
 |block i x _=>
  intro hc;simp only[ay,AC.block.injEq] at hc;exact nM (c:=x) (fun b k cs=>⟨_,stepR_block⟩) (hB hc.2)
 |_=>intro hc;obtain⟨_,hcd,_⟩:=iK rfl hc;simp at hcd
theorem D7{L:Nat}{args:List AV}{bD bZ:Option AX}{ps:List Nat}{x A:AC}{id:Nat}{l1 l2:List bh}{i:bh}{e2 e3 e4:Env}{h3 h4 h5:Heap}{tr:List aG}{v:AV}
  (hg:h.get L=some (.loop 0 bD e ps x (.block id (.seq A (.ops (l1++i::l2))))))(hlen:args.length=ps.length)(AF:bu P H0 true x (eX ps args e) h .normal e2 h2)(di:aR x=true)
  (BD:h2.get L=some (.loop 0 bZ e ps x (.block id (.seq A (.ops (l1++i::l2))))))(EY:aR A=true)
  (hA:bu P H0 true A e2 (h2.set L (.loop 1 bZ e ps x (.block id (.seq A (.ops (l1++i::l2)))))) .normal e3 h3)
  (j7:OT P H0 l1 e3 h3 tr e4 h4)(hw0:bF i e4=true)(hop:i.op≠.bad∧mF P H0 i.op (i.args.map e4.ev) h4 v h5):pQ P H0 (.yield L) args h v h5:=by
 generalize hy:(AC.block id (.seq A (.ops (l1++i::l2))))=y at*;intro ρ D w hi hf hd o a ro n next Q hk
 simp only[AV.aP] at hf;obtain⟨_,r,hr,hst,hpd,Wp,vO,hps,hca,hcb,OX,OY,OA⟩:=hi.bB L _ hf hg;have hsz:args.length=r.params.size:=by rw[hlen,←hps];simp
 have hrun:((do let d ←Deferred.ofValue (real ρ (.yield L)) (aa ρ args).toArray;invoke d.target d.args:Sem Next).run P w)=
   .ok (.round (ρ L).bB r.fn ((ps.zip (aa ρ args)).foldl (fun tmps p=>tmps.setIfInBounds p.1 p.2) r.tmps) r.assign r.body) w:=by
  simp only[real,Deferred.ofValue,Sem.run_bind,Sem.run_pure,Result.andThen,invoke,Instr.yield,run_getLoop hr];rw[if_neg (by simp[aK,hsz])];simp only[Sem.run_pure]
  congr 2
  rw[←hps];rw[←Array.foldl_toList];simp
 rw[hrun];refine⟨fun hh=>by simp[FW,Fence.wide] at hh,trivial,fun c cs _=>?_⟩;have Dw:=o8 (ρ:=ρ) (D:=D) (ps:=ps) (args:=args) (e:=e) (tmps:=r.tmps) hlen.symm OA rfl Wp vO hd;have hm0:iG [] w.heap.size ρ D h w ([]:List Deferred):=⟨[],rfl,List.nodup_nil,fun r hr=>by simp at hr⟩
 let b:Frame:={(default:Frame) with fn:=r.fn,kind:=.normal,roundOf:=some (ρ L).bB}
 have hb0:Frame.round (ρ L).bB r.fn ((ps.zip (aa ρ args)).foldl (fun tmps p=>tmps.setIfInBounds p.1 p.2) r.tmps) r.assign r.body .normal=b.atR {tmps:=(ps.zip (aa ρ args)).foldl (fun tmps p=>tmps.setIfInBounds p.1 p.2) r.tmps,defers:=[]} [.code r.assign,.beginRound,.code r.body]:=by
  simp[Frame.round,Frame.atR,b]
 obtain⟨ex,a1,w1,⟨pP,hex,i1,x1,FR,m1,nd1⟩,fN⟩:=AF r.assign hca r.tmps.size OX (some (ρ L).bB) rfl ρ D w _ w.heap.size 0 [] hi Dw hm0 (Nat.le_refl _) b [.beginRound,.code r.body] (c::cs) rfl trivial (fun d hd=>by simp[FW,Fence.wide] at hd);have hex:ex=.normal:=hex;subst hex;have Du:a1.defers=[]:=nd1 di;have GU:grow D h.next h2.next L:=.inl hf;have uO:=x1.bp L hf;obtain⟨_,r1,CJ,O6,OZ,Pc,ON,O1,OD,OG,ID,IF,Io⟩:=i1.bB L _ GU BD;have yK:=sj i1 GU BD CJ (st':=1) (ku:=bZ) (r':={r1 with state:=.busy}) ⟨rfl,OZ,Pc,ON,O1,OD,OG,ID,IF,Io⟩;have IW:r1.state=.ready:=O6;have uP:(Instr.beginRound (ρ L).bB).run P w1=.ok () (setRow w1 (pP L).bB (.loop {r1 with state:=.busy})):=by
  rw[←uO];simp only[Instr.beginRound,Sem.run_bind,run_getLoop CJ,Result.andThen,nT CJ (fun _ _ _=>by simp),IW,Sem.run_pure]
 have hi1:=yK.1;have hx1:=yK.2;have hbody:qF (some (ρ L).bB) P r.body (FA P H0 pP (grow D h.next h2.next) (h2.set L (.loop 1 bZ e ps x y)) (setRow w1 (pP L).bB (.loop {r1 with state:=.busy})) v h5) a1 (setRow w1 (pP L).bB (.loop {r1 with state:=.busy})):=by
  subst hy;refine B6 (fun{code} hc=>?_) hcb;exact DQ hA EY (fun{code} hc hN {ρ D w a} gi ge gd=>Gp j7 hw0 hop hc hN gi ge gd) hc OY hi1 FR Du
 obtain⟨ch,a2,w2,ops,l',k',⟨q1,ir,q2,q3,q4,q5⟩,hst⟩:=hbody b [] (c::cs) rfl;subst q2;have g1:=x1.next;have g2:=q4.next;rw[show(h2.set L (.loop 1 bZ e ps x y)).next=h2.next from rfl] at g2 q3 q5;rw[dh D g1 g2] at q3 q5;have xb:Ext pP (grow D h.next h2.next) h2 w1 ir h5 w2:=Ext.trans i1.lt hx1 (by
  rw[show(h2.set L (.loop 1 bZ e ps x y)).next=h2.next from rfl,aY];exact q4)
 refine⟨.panicked [{v:=real ir v,recovered:=false}],w2,hk ir w2 q3 (Ext.trans hi.lt x1 xb) q5,?_⟩;show StepsIn _ P _ _;rw[hb0];refine StepsIn.trans fN (.head fD (stepR_beginRound rfl uP) (StepsIn.trans hst (.one fD ?_)));exact step_lone_go (by cases hq:P.funcs[r.fn]?<;>simp[stepG,unwind,Frame.catches,Frame.atR,q1,b,hq])
theorem D6{g:bA}{ps:List Nat}{x y:AC}{f:Nat}{first aF:List AV}{v:AV}(hg:e.ev g=.func (.func f) first aF)
  (hc:mQ P H0 f (first++(.yield h.next::aF)) (h.new (.loop 0 none e ps x y)) v h2)(tH:∀(args:Array Value) (w:World),(callFunc f args).run P w=.ok (.enter f args) w):
  bu P H0 false (.rangeFunc g ps x y) e h (.panic v) e h2:=by
 refine cr fun code hs fm N hN ro hro ρ D w a W0 n tl hi he hm hW=>?_;obtain⟨gq,qs,cx,cy,rfl,TD,Wk,hx,hy⟩:=oG hs fm;have vV:ro=none:=by cases ro<;>simp_all
 subst vV;simp only[codeOk,Bool.and_eq_true] at hN;refine wpIn_rangeFunc ?_;intro fn _
 let wd:=w.alloc (.deferred (some []))
 have hwd:wd.heap.size=w.heap.size+1:=by show(w.heap.push _).size=_;simp
 let lp:Loop:={state:=.ready,pending:=none,fn:=fn,tmps:=a.tmps,params:=qs,assign:=cx,body:=cy,defers:=w.heap.size}
 have vU:=BU hi (.deferred (some []));have Il:∀b,D b→kW ρ h.next ⟨wd.heap.size,0,0⟩ b=ρ b:=fun b hb=>jD _ _ (by have:=hi.lt b hb;omega);have um:bz (kW ρ h.next ⟨wd.heap.size,0,0⟩) (grow D h.next (h.next+1)) N e a:=he.mono Il (fun _=>.inl);have hnew:=pH (w:=wd) (w':=wd.alloc (.loop lp)) vU.1 (.loop 0 none e ps x y) 0 (.loop lp) rfl rfl rfl rfl
  ⟨vU.1.low,lp,jr wd _,rfl,rfl,um.get,um.dom,Wk,hx,hy,by rw[show lp.tmps.size=N from he.size];exact hN.1.2,by rw[show lp.tmps.size=N from he.size];exact hN.2,by rw[show lp.tmps.size=N from he.size];exact hN.1.1⟩
 have BC:Ext ρ D h w (kW ρ h.next ⟨wd.heap.size,0,0⟩) (h.new (.loop 0 none e ps x y)) (wd.alloc (.loop lp)):=Ext.trans hi.lt vU.2 (by rw[aY];exact hnew.2);have vR:=aD um TD;rw[hg] at vR;simp only[AV.aP] at vR;refine⟨wd.heap.size,[{target:=.collected w.heap.size,args:=#[]}],wd.alloc (.loop lp),{target:=.fn (.func f) (aa (kW ρ h.next ⟨wd.heap.size,0,0⟩) aF).toArray,args:=(aa (kW ρ h.next ⟨wd.heap.size,0,0⟩) first).toArray++#[.func (.yield wd.heap.size) #[] #[]]},wd.alloc (.loop lp),f,
  (aa (kW ρ h.next ⟨wd.heap.size,0,0⟩) (first++(.yield h.next::aF))).toArray,wd.alloc (.loop lp),?_,?_,fun _ _=>trivial,?_,fun hh=>by simp[FW,Fence.wide] at hh,?_⟩
 ·show(Instr.enterLoop fn a.tmps qs cx cy none).run P w=_;simp only[Instr.enterLoop,Sem.run_bind,run_newObj_alloc,Result.andThen,Sem.run_pure];rfl
 ·simp only[resolve];rw[show a.eval gq=real (kW ρ h.next ⟨wd.heap.size,0,0⟩) (.func (.func f) first aF) from vR.1];simp[Deferred.ofValue,real,Act.eval]
 ·simp only[invoke,tH]
  congr 2
  have:real (kW ρ h.next ⟨wd.heap.size,0,0⟩) (.yield h.next)=.func (.yield wd.heap.size) #[] #[]:=by simp[real,bE]
  simp[gF,aa,this]
 ·have hda:aW (grow D h.next (h.next+1)) (first++(.yield h.next::aF)):=by
   rw[aL];intro z hz;rcases List.mem_append.1 hz with hz|hz
   ·exact(aL _ _).1 vR.2.2.1 z hz
   ·rcases List.mem_cons.1 hz with hz|hz
    ·rw[hz];simp only[AV.aP];exact .inr ⟨Nat.le_refl _,by omega⟩
    ·exact(aL _ _).1 vR.2.2.2 z hz
  refine CallsIn.mono (hc (kW ρ h.next ⟨wd.heap.size,0,0⟩) (grow D h.next (h.next+1)) (wd.alloc (.loop lp)) (n-1) hnew.1 hda) ?_;rintro en w3 ⟨ir,rfl,i2,x2,KA⟩;have di:(h.new (.loop 0 none e ps x y)).next=h.next+1:=rfl
  rw[di] at i2 KA;have hn2:h.next+1≤h2.next:=by have:=x2.next;rw[di] at this;exact this
  have Ks:=Ext.trans hi.lt BC (by rw[di];exact x2);have Nv:=dh D (show h.next≤h.next+1 by omega) hn2;rw[Nv] at i2 KA;have Oe:bz ir (grow D h.next h2.next) N e {a with defers:=[{target:=.collected w.heap.size,args:=#[]}]++a.defers}:=by
   have:=he.mono (ρ':=ir) (D':=grow D h.next h2.next) (fun b hb=>Ks.bp b hb) (fun _=>.inl);exact⟨this.size,this.get,this.dom⟩
  have PG:iG tl W0 ir (grow D h.next h2.next) h2 w3 ([{target:=.collected w.heap.size,args:=#[]}]++a.defers):=by
   have m1:iG tl W0 (kW ρ h.next ⟨wd.heap.size,0,0⟩) (grow D h.next (h.next+1)) (h.new (.loop 0 none e ps x y)) (wd.alloc (.loop lp)) ([{target:=.collected w.heap.size,args:=#[]}]++a.defers):=by
    obtain⟨rs,q1,q2,q3⟩:=hm.ext hi.lt BC;rw[di] at q3;refine⟨w.heap.size::rs,by rw[q1];rfl,?_,?_⟩
    ·refine List.nodup_cons.2 ⟨?_,q2⟩;intro hmem;obtain⟨rs',WJ,q2',WK⟩:=hm;have:rs=rs':=by
      have he:=q1.symm.trans WJ;have he:=List.append_cancel_right he;have hinj:=congrArg (List.map (fun d:Deferred=>match d.target with|.collected r=>r|_=>0)) he;simpa[marksOf,Function.comp_def] using hinj
     rw[this] at hmem;have:=(Array.getElem?_eq_some_iff.1 (WK _ hmem).2.1).1;omega
    ·intro r hr;rcases List.mem_cons.1 hr with rfl|hr
     ·refine⟨hW,?_,?_⟩
      ·show((w.heap.push _).push _)[w.heap.size]?=_;rw[Array.getElem?_push,if_neg (by simp),Array.getElem?_push,if_pos rfl]
      ·rintro b (hb|⟨r6,jf⟩) hn
       ·rw[Il b hb];rw[Heap.bK,if_neg (by have:=hi.lt b hb;omega)] at hn;have:=hi.Mu hb hn;omega
       ·have:b=h.next:=by omega
        subst this;rw[bE];simp only;omega
     ·exact q3 r hr
   have:=m1.ext hnew.1.lt x2;rw[di] at this;rw[←Nv];exact this
  exact⟨ir,⟨rfl,KA⟩,i2,Ks,Oe,PG,fun hn=>by simp[aR] at hn⟩
end
end Ads
end Go.Proofs.Ytecdcefacdodgaa
