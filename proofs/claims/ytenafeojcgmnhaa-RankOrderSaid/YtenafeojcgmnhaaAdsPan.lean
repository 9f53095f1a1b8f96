/-
  What big steps mean in the model: a round of a range over a function that panics.
-/
import Derived.Test.YtenafeojcgmnhaaAdsRange
set_option linter.unusedSimpArgs false
set_option linter.unusedVariables false
namespace Go.Proofs.Ytenafeojcgmnhaa
namespace Ads
section
variable {P:Program} {H0 W0:Nat} {ρ ρ':cD} {D D':Dom} {h h' h1 h2:Heap} {w w':World} {N n:Nat} {env e e':Env} {a:Act} {ro:Option Nat} {rd:Bool}
theorem gJ{m:Machine}:m.fenced P (FW ro):=by
 have:=fenced_wide P m;cases ro with
 |none=>exact this
 |some l=>exact this
theorem dy{ops:Array Oper}{Q:Exit→Act→World→Prop}(hQ:∀e a w,Q e a w→∃ch,e=.panic ch):∀(l:List Nat) (a:Act) (w:World),wpOpsIn (FW ro) n P ops Q l a w→
  ∀(b:Frame) (k:List Item) (cs:List Frame),b.roundOf=ro→∃ch a' w' l',Q (.panic ch) a' w'∧
   StepsIn (Machine.fenced P (FW ro)) P (lone (b.atR a (.inRegion ops l::k)) cs w) (lone {b.atR a' (.inRegion ops l'::k) with mode:=.panicking ch} cs w')
 |[],a,w,h,b,k,cs,hro=>by
  obtain⟨ch,hc⟩:=hQ _ _ _ h;simp at hc
 |i::rest,a,w,h,b,k,cs,hro=>by
  have hroom:∀m,(FW ro).room m:=fun m d hd=>by simp[FW,Fence.wide] at hd
  simp only[wpOpsIn] at h;cases ho:ops[i]? with
  |none=>
   simp only[ho] at h;obtain⟨ch,a',w',l',hq,hs⟩:=dy hQ rest a w h b k cs hro;have s1:=stepR_op_skip (P:=P) (b:=b) (a:=a) (k:=k) (cs:=cs) (w:=w) (ops:=ops) (i:=i) (rest:=rest) (by simp[ho]);simp only[ho,Option.bind_none,Act.put] at s1;exact⟨ch,a',w',l',hq,.head gJ s1 hs⟩
  |some o=>
   simp only[ho] at h;by_cases hw:Region.wanted o (yielded ops a.tmps)=true
   ·simp only[hw,if_true,Oper.wpIn] at h;obtain⟨_,h⟩:=h;have hg:=stepGR_op (P:=P) (b:=b) (k:=k) (cs:=cs) (w:=w) (rest:=rest) ho hw;rw[hro] at hg;have jH:∀v,(b.atR a (.inRegion ops (i::rest)::k)).finish v=b.atR (a.put o.dst v) (.inRegion ops rest::k):=by
     intro v;rw[Frame.finish_atR,ho];rfl
    have ML:(FW ro).round=ro:=rfl;rw[ML] at h;simp only[Oper.uponIn] at h;split at h
    ·rename_i v w' hr';obtain⟨ch,a',w'',l',hq,hs⟩:=dy hQ rest _ _ h b k cs hro;refine⟨ch,a',w'',l',hq,.head gJ (step_lone_go ?_) hs⟩;rw[hg,←jH];simp[stepG.apply,hr']
    ·rename_i w' hr';obtain⟨ch,a',w'',l',hq,hs⟩:=dy hQ rest _ _ h b k cs hro;refine⟨ch,a',w'',l',hq,.head gJ (step_lone_go ?_) hs⟩;rw[hg,←jH];simp[stepG.apply,hr']
    ·rename_i d w' hr';obtain⟨ch,a',w'',l',hq,hs⟩:=dy hQ rest _ _ h b k cs hro;refine⟨ch,a',w'',l',hq,.head gJ (step_lone_go ?_) hs⟩;have:({b.atR a (.inRegion ops (i::rest)::k) with defers:=d::a.defers}:Frame).finish undef=
       b.atR ({a with defers:=d::a.defers}.put o.dst undef) (.inRegion ops rest::k):=by
      have:=Frame.finish_atR b {a with defers:=d::a.defers} ops i rest k undef;rw[ho] at this;exact this
     rw[hg];simp only[stepG.apply,Sem.runT_eq,hr',GStep.bare_after];exact congrArg (fun fr=>GStep.go {frame:=fr,callers:=cs,status:=.running,dying:=none} w') this
    ·rename_i f args w' hr';obtain⟨_,_,h⟩:=h;obtain⟨e,w'',fr,hR,qR,hfn,GP⟩:=h (b.atR a (.inRegion ops (i::rest)::k)::cs) (hroom _);have qP:step P (lone (b.atR a (.inRegion ops (i::rest)::k)) cs w)=
       .next (lone (Frame.enter P f args .normal) (b.atR a (.inRegion ops (i::rest)::k)::cs) w'):=
      step_lone_go (by rw[hg];simp[stepG.apply,hr',Frame.atR])
     cases e with
     |returned v=>
      obtain⟨ch,a',w₃,l',hq,hs⟩:=dy hQ rest _ _ hR b k cs hro;refine⟨ch,a',w₃,l',hq,.head gJ qP (StepsIn.trans qR (.head gJ ?_ hs))⟩;rw[←jH];exact step_leave_returned GP
     |panicked chain=>
      refine⟨chain,a,w'',i::rest,hR,.head gJ qP (StepsIn.trans qR (.one gJ ?_))⟩;rw[←Frame.raise_atR];exact step_leave_panicked GP
     |outgrown=>
      obtain⟨a₀,w₀,hq⟩:=hR;obtain⟨ch,hc⟩:=hQ _ _ _ hq;simp at hc
    ·rename_i row args w' hr';obtain⟨_,h⟩:=h;obtain⟨v,w'',hR,qR⟩:=h (b.atR a (.inRegion ops (i::rest)::k)) cs (hroom _);have qP:step P (lone (b.atR a (.inRegion ops (i::rest)::k)) cs w)=
       .next (lone (Frame.ofRow P row args .normal) (b.atR a (.inRegion ops (i::rest)::k)::cs) w'):=
      step_lone_go (by rw[hg];simp[stepG.apply,hr',Frame.atR])
     obtain⟨ch,a',w₃,l',hq,hs⟩:=dy hQ rest _ _ hR b k cs hro;refine⟨ch,a',w₃,l',hq,.head gJ qP (StepsIn.trans qR ?_)⟩;rw[jH];exact hs
    ·rename_i l f tmps assign body w' hr';obtain⟨_,_,h⟩:=h;obtain⟨e,w'',hR,qR⟩:=h (b.atR a (.inRegion ops (i::rest)::k)) cs (hroom _);have qP:step P (lone (b.atR a (.inRegion ops (i::rest)::k)) cs w)=
       .next (lone (Frame.round l f tmps assign body .normal) (b.atR a (.inRegion ops (i::rest)::k)::cs) w'):=
      step_lone_go (by rw[hg];simp[stepG.apply,hr',Frame.atR])
     cases e with
     |returned v=>
      obtain⟨ch,a',w₃,l',hq,hs⟩:=dy hQ rest _ _ hR b k cs hro;refine⟨ch,a',w₃,l',hq,.head gJ qP (StepsIn.trans qR ?_)⟩;simp only[];rw[jH];exact hs
     |panicked chain=>
      refine⟨chain,a,w'',i::rest,hR,.head gJ qP qR⟩
     |outgrown=>
      obtain⟨a₀,w₀,hq⟩:=hR;obtain⟨ch,hc⟩:=hQ _ _ _ hq;simp at hc
    ·rename_i v w' hr';refine⟨_,a,w',i::rest,h,.one gJ (step_lone_go ?_)⟩;rw[hg,←Frame.raise_atR];simp[stepG.apply,hr']
    ·exact h.elim
   ·simp only[hw,if_false,Bool.false_eq_true] at h;obtain⟨_,h⟩:=h;obtain⟨ch,a',w',l',hq,hs⟩:=dy hQ rest _ _ h b k cs hro;have s1:=stepR_op_skip (P:=P) (b:=b) (a:=a) (k:=k) (cs:=cs) (w:=w) (ops:=ops) (i:=i) (rest:=rest)
     (by simp[ho];simpa using hw)
    simp only[ho,Option.bind_some] at s1;exact⟨ch,a',w',l',hq,.head gJ s1 hs⟩
theorem step_scope{b:Frame}{c:Code}{k:List Item}{cs:List Frame}:step P (lone (b.atR a (.code (.scope c)::k)) cs w)=.next (lone (b.atR a (.code c::.inScope c::k)) cs w):=
 step_lone_go (by simp[stepG,stepG.exec,Frame.atR])
def qq(ro:Option Nat)(P:Program)(code:Code)(Q:List PanicEntry→Act→World→Prop)(a:Act)(w:World):Prop:=
 ∀(b:Frame) (k:List Item) (cs:List Frame),b.roundOf=ro→∃ch a' w' ops l' k',Q ch a' w'∧
  StepsIn (Machine.fenced P (FW ro)) P (lone (b.atR a (.code code::k)) cs w) (lone {b.atR a' (.inRegion ops l'::k') with mode:=.panicking ch} cs w')
theorem nF{code c:Code}{Q:List PanicEntry→Act→World→Prop}(hs:∀(b:Frame) (k:List Item) (cs:List Frame),∃k',step P (lone (b.atR a (.code code::k)) cs w)=.next (lone (b.atR a (.code c::k')) cs w))
  (hp:qq ro P c Q a w):qq ro P code Q a w:=by
 intro b k cs hro;obtain⟨k0,h0⟩:=hs b k cs;obtain⟨ch,a',w',ops,l',k',hq,hst⟩:=hp b k0 cs hro;exact⟨ch,a',w',ops,l',k',hq,.head gJ h0 hst⟩
theorem Fa{x y:Code}{Q:List PanicEntry→Act→World→Prop}(hx:x.wpIn (FW ro) n P (fun ex a' w'=>ex=.normal∧qq ro P y Q a' w') a w):qq ro P (.seq x y) Q a w:=by
 intro b k cs hro;obtain⟨ex,a1,w1,⟨rfl,hy⟩,gT⟩:=hx b (.code y::k) cs hro (by cases ro<;>trivial) (fun d hd=>by simp[FW,Fence.wide] at hd);obtain⟨ch,a',w',ops,l',k',hq,hst⟩:=hy b k cs hro;exact⟨ch,a',w',ops,l',k',hq,.head gJ stepR_seq (StepsIn.trans gT hst)⟩
def Ek(P:Program)(H0:Nat)(ρ:cD)(D:Dom)(h:Heap)(w:World)(v:AV)(h2:Heap):List PanicEntry→Act→World→Prop:=fun ch a' w'=>
 a'.defers=[]∧∃ρ',ch=[{v:=real ρ' v,recovered:=false}]∧Inv P H0 ρ' (grow D h.next h2.next) h2 w'∧Ext ρ D h w ρ' h2 w'∧v.aR (grow D h.next h2.next)
theorem E9{l1 l2:List bq}{i:bq}{tr:List aK}{v:AV}(kq:OT P H0 l1 e h tr e' h')(hw0:bP i e'=true)(hop:i.op≠.bad∧mw P H0 i.op (i.args.map e'.ev) h' v h2):∀{code:Code},aD P code=.ops (l1++i::l2)→
  cV N (l1++i::l2)=true→∀{a:Act},Inv P H0 ρ D h w→bJ ρ D N e a→a.defers=[]→qq ro P code (Ek P H0 ρ D h w v h2) a w:=by
 intro code;induction code with
 |scope c' ih=>
  intro hc hN a hi he hd;exact nF (c:=c') (fun b k cs=>⟨_,step_scope⟩) (ih (by simpa[aD] using hc) hN hi he hd)
 |region id os draw=>
  intro hc hN a hi he hd b k cs hro;obtain⟨id',os',hcd,hos⟩:=dR (code:=.region id os draw) rfl hc;simp only[Code.region.injEq] at hcd;obtain⟨_,rfl,rfl⟩:=hcd;rw[pX,Bool.and_eq_true] at hN;have hl:wpListIn (FW ro) 0 P os (fun ex a' w'=>∃ch,ex=.panic ch∧Ek P H0 ρ D h w v h2 ch a' w') os.toList a w:=by
   refine jS kq hw0 hop.1 hop.2 hos hN.1 hi he ?_;intro ρ' w' a' g1 g2 g3 g4 g5;exact⟨_,rfl,g4.trans hd,ρ',rfl,g1,g2,g5⟩
  have Of:wpOpsIn (FW ro) 0 P os (fun ex a' w'=>∃ch,ex=.panic ch∧Ek P H0 ρ D h w v h2 ch a' w') (List.range os.size) a w:=by
   rw[List.range_eq_range',←Array.length_toList,wpOpsIn_eq_wpListIn os.toList 0 (by simp)];exact hl
  obtain⟨ch,a',w',l',⟨ch',TV,hq⟩,hst⟩:=dy (fun e a w hh=>by obtain⟨ch,hc,_⟩:=hh;exact⟨ch,hc⟩) _ a w Of b k cs hro;cases TV
  exact⟨ch,a',w',os,l',k,hq,.head gJ stepR_region hst⟩
 |_=>intro hc;obtain⟨_,_,hcd,_⟩:=dR rfl hc;simp at hcd
theorem CM{A B:AC}{v:AV}{e1:Env}(hA:bF P H0 true A e h .normal e1 h1)(DK:aY A=true)
  (hB:∀{code:Code},aD P code=B→codeOk N B=true→∀{ρ:cD} {D:Dom} {w:World} {a:Act},Inv P H0 ρ D h1 w→bJ ρ D N e1 a→a.defers=[]→qq (some n) P code (Ek P H0 ρ D h1 w v h2) a w):
  ∀{code:Code},aD P code=.seq A B→codeOk N (.seq A B)=true→∀{a:Act},Inv P H0 ρ D h w→bJ ρ D N e a→a.defers=[]→qq (some n) P code (Ek P H0 ρ D h w v h2) a w:=by
 intro code;induction code with
 |scope c' ih=>
  intro hc hN a hi he hd;exact nF (c:=c') (fun b k cs=>⟨_,step_scope⟩) (ih (by simpa[aD] using hc) hN hi he hd)
 |seq x y _ _=>
  intro hc hN a hi he hd;simp only[aD,AC.seq.injEq] at hc;simp only[codeOk,Bool.and_eq_true] at hN;refine Fa (n:=0) ?_;have hm0:jm [] w.heap.size ρ D h w a.defers:=⟨[],by rw[hd];rfl,List.nodup_nil,fun r hr=>by simp at hr⟩;refine Code.wpIn_mono ?_ (hA x hc.1 N hN.1 (some n) rfl ρ D w a w.heap.size 0 [] hi he hm0 (Nat.le_refl _));rintro ex a' w' ⟨ρ',hex,g1,g2,g3,g4,g5⟩;refine⟨hex,?_⟩;intro b k cs hro;obtain⟨ch,a2,w2,ops,l',k',⟨q1,iY,q2,q3,q4,q5⟩,hst⟩:=hB hc.2 hN.2 g1 g3 ((g5 DK).trans hd) b k cs hro;have hn2:=q4.next;rw[dD D g2.next hn2] at q3 q5;exact⟨ch,a2,w2,ops,l',k',⟨q1,iY,q2,q3,Ext.trans hi.lt g2 q4,q5⟩,hst⟩
 |_=>intro hc hN;obtain⟨_,_,hcd,_⟩:=fW rfl hc;simp at hcd
theorem Bo{id:Nat}{c:AC}{Q:List PanicEntry→Act→World→Prop}(hB:∀{code:Code},aD P code=c→qq ro P code Q a w):∀{code:Code},aD P code=.block id c→qq ro P code Q a w:=by
 intro code;induction code with
 |scope c' ih=>
  intro hc;exact nF (c:=c') (fun b k cs=>⟨_,step_scope⟩) (ih (by simpa[aD] using hc))
 |block i x _=>
  intro hc;simp only[aD,AC.block.injEq] at hc;exact nF (c:=x) (fun b k cs=>⟨_,stepR_block⟩) (hB hc.2)
 |_=>intro hc;obtain⟨_,hcd,_⟩:=jn rfl hc;simp at hcd
theorem CY{L:Nat}{args:List AV}{cu cm:Option AX}{ps:List Nat}{x A:AC}{id:Nat}{l1 l2:List bq}{i:bq}{e2 e3 e4:Env}{h3 h4 h5:Heap}{tr:List aK}{v:AV}
  (hg:h.get L=some (.loop 0 cu e ps x (.block id (.seq A (.ops (l1++i::l2))))))(hlen:args.length=ps.length)(wQ:bF P H0 true x (fY ps args e) h .normal e2 h2)(sS:aY x=true)
  (ni:h2.get L=some (.loop 0 cm e ps x (.block id (.seq A (.ops (l1++i::l2))))))(DK:aY A=true)
  (hA:bF P H0 true A e2 (h2.set L (.loop 1 cm e ps x (.block id (.seq A (.ops (l1++i::l2)))))) .normal e3 h3)
  (kq:OT P H0 l1 e3 h3 tr e4 h4)(hw0:bP i e4=true)(hop:i.op≠.bad∧mw P H0 i.op (i.args.map e4.ev) h4 v h5):pq P H0 (.yield L) args h v h5:=by
 generalize hy:(AC.block id (.seq A (.ops (l1++i::l2))))=y at*;intro ρ D w hi hf hd o a ro n next Q hk
 simp only[AV.aR] at hf;obtain⟨_,r,hr,hst,hpd,UE,vh,hps,hca,hcb,MG,MH,Mk⟩:=hi.bD L _ hf hg;have hsz:args.length=r.params.size:=by rw[hlen,←hps];simp
 have hrun:((do let d ←Deferred.ofValue (real ρ (.yield L)) (au ρ args).toArray;invoke d.target d.args:Sem Next).run P w)=
   .ok (.round (ρ L).bD r.fn ((ps.zip (au ρ args)).foldl (fun tmps p=>tmps.setIfInBounds p.1 p.2) r.tmps) r.assign r.body) w:=by
  simp only[real,Deferred.ofValue,Sem.run_bind,Sem.run_pure,Result.andThen,invoke,Instr.yield,run_getLoop hr];rw[if_neg (by simp[aL,hsz])];simp only[Sem.run_pure]
  congr 2
  rw[←hps];rw[←Array.foldl_toList];simp
 rw[hrun];refine⟨fun hh=>by simp[FW,Fence.wide] at hh,trivial,fun c cs _=>?_⟩;have Ms:=oO (ρ:=ρ) (D:=D) (ps:=ps) (args:=args) (e:=e) (tmps:=r.tmps) hlen.symm Mk rfl UE vh hd;have hm0:jm [] w.heap.size ρ D h w ([]:List Deferred):=⟨[],rfl,List.nodup_nil,fun r hr=>by simp at hr⟩
 let b:Frame:={(default:Frame) with fn:=r.fn,kind:=.normal,roundOf:=some (ρ L).bD}
 have hb0:Frame.round (ρ L).bD r.fn ((ps.zip (au ρ args)).foldl (fun tmps p=>tmps.setIfInBounds p.1 p.2) r.tmps) r.assign r.body .normal=b.atR {tmps:=(ps.zip (au ρ args)).foldl (fun tmps p=>tmps.setIfInBounds p.1 p.2) r.tmps,defers:=[]} [.code r.assign,.beginRound,.code r.body]:=by
  simp[Frame.round,Frame.atR,b]
 obtain⟨ex,a1,w1,⟨pn,hex,i1,x1,EG,m1,nd1⟩,gT⟩:=wQ r.assign hca r.tmps.size MG (some (ρ L).bD) rfl ρ D w _ w.heap.size 0 [] hi Ms hm0 (Nat.le_refl _) b [.beginRound,.code r.body] (c::cs) rfl trivial (fun d hd=>by simp[FW,Fence.wide] at hd);have hex:ex=.normal:=hex;subst hex;have AO:a1.defers=[]:=nd1 sS;have zZ:grow D h.next h2.next L:=.inl hf;have ur:=x1.bx L hf;obtain⟨_,r1,uB,MN,MI,MT,Mu,MJ,Mm,Mp,GS,GV,GD⟩:=i1.bD L _ zZ ni;have xO:=sg i1 zZ ni uB (st':=1) (kE:=cm) (r':={r1 with state:=.busy}) ⟨rfl,MI,MT,Mu,MJ,Mm,Mp,GS,GV,GD⟩;have He:r1.state=.ready:=MN;have wM:(Instr.beginRound (ρ L).bD).run P w1=.ok () (setRow w1 (pn L).bD (.loop {r1 with state:=.busy})):=by
  rw[←ur];simp only[Instr.beginRound,Sem.run_bind,run_getLoop uB,Result.andThen,nP uB (fun _ _ _=>by simp),He,Sem.run_pure]
 have hi1:=xO.1;have hx1:=xO.2;have hbody:qq (some (ρ L).bD) P r.body (Ek P H0 pn (grow D h.next h2.next) (h2.set L (.loop 1 cm e ps x y)) (setRow w1 (pn L).bD (.loop {r1 with state:=.busy})) v h5) a1 (setRow w1 (pn L).bD (.loop {r1 with state:=.busy})):=by
  subst hy;refine Bo (fun{code} hc=>?_) hcb;exact CM hA DK (fun{code} hc hN {ρ D w a} gi ge gd=>E9 kq hw0 hop hc hN gi ge gd) hc MH hi1 EG AO
 obtain⟨ch,a2,w2,ops,l',k',⟨q1,iY,q2,q3,q4,q5⟩,hst⟩:=hbody b [] (c::cs) rfl;subst q2;have g1:=x1.next;have g2:=q4.next;rw[show(h2.set L (.loop 1 cm e ps x y)).next=h2.next from rfl] at g2 q3 q5;rw[dD D g1 g2] at q3 q5;have xb:Ext pn (grow D h.next h2.next) h2 w1 iY h5 w2:=Ext.trans i1.lt hx1 (by
  rw[show(h2.set L (.loop 1 cm e ps x y)).next=h2.next from rfl,bn];exact q4)
 refine⟨.panicked [{v:=real iY v,recovered:=false}],w2,hk iY w2 q3 (Ext.trans hi.lt x1 xb) q5,?_⟩;show StepsIn _ P _ _;rw[hb0];refine StepsIn.trans gT (.head gJ (stepR_beginRound rfl wM) (StepsIn.trans hst (.one gJ ?_)));exact step_lone_go (by cases hq:P.funcs[r.fn]?<;>simp[stepG,unwind,Frame.catches,Frame.atR,q1,b,hq])
theorem CX{g:bG}{ps:List Nat}{x y:AC}{f:Nat}{first aX:List AV}{v:AV}(hg:e.ev g=.func (.func f) first aX)
  (hc:mI P H0 f (first++(.yield h.next::aX)) (h.new (.loop 0 none e ps x y)) v h2)(tA:∀(args:Array Value) (w:World),(callFunc f args).run P w=.ok (.enter f args) w):
  bF P H0 false (.rangeFunc g ps x y) e h (.panic v) e h2:=by
 refine cG fun code hs eT N hN ro hro ρ D w a W0 n tl hi he hm hW=>?_;obtain⟨gq,qs,cx,cy,rfl,SI,Uz,hx,hy⟩:=ou hs eT;have vo:ro=none:=by cases ro<;>simp_all
 subst vo;simp only[codeOk,Bool.and_eq_true] at hN;refine wpIn_rangeFunc ?_;intro fn _
 let wd:=w.alloc (.deferred (some []))
 have hwd:wd.heap.size=w.heap.size+1:=by show(w.heap.push _).size=_;simp
 let lp:Loop:={state:=.ready,pending:=none,fn:=fn,tmps:=a.tmps,params:=qs,assign:=cx,body:=cy,defers:=w.heap.size}
 have vn:=Ba hi (.deferred (some []));have GB:∀b,D b→iH ρ h.next ⟨wd.heap.size,0,0⟩ b=ρ b:=fun b hb=>jN _ _ (by have:=hi.lt b hb;omega);have sQ:bJ (iH ρ h.next ⟨wd.heap.size,0,0⟩) (grow D h.next (h.next+1)) N e a:=he.mono GB (fun _=>.inl);have hnew:=oY (w:=wd) (w':=wd.alloc (.loop lp)) vn.1 (.loop 0 none e ps x y) 0 (.loop lp) rfl rfl rfl rfl
  ⟨vn.1.low,lp,jF wd _,rfl,rfl,sQ.get,sQ.dom,Uz,hx,hy,by rw[show lp.tmps.size=N from he.size];exact hN.1.2,by rw[show lp.tmps.size=N from he.size];exact hN.2,by rw[show lp.tmps.size=N from he.size];exact hN.1.1⟩
 have AQ:Ext ρ D h w (iH ρ h.next ⟨wd.heap.size,0,0⟩) (h.new (.loop 0 none e ps x y)) (wd.alloc (.loop lp)):=Ext.trans hi.lt vn.2 (by rw[bn];exact hnew.2);have vk:=aF sQ SI;rw[hg] at vk;simp only[AV.aR] at vk;refine⟨wd.heap.size,[{target:=.collected w.heap.size,args:=#[]}],wd.alloc (.loop lp),{target:=.fn (.func f) (au (iH ρ h.next ⟨wd.heap.size,0,0⟩) aX).toArray,args:=(au (iH ρ h.next ⟨wd.heap.size,0,0⟩) first).toArray++#[.func (.yield wd.heap.size) #[] #[]]},wd.alloc (.loop lp),f,
  (au (iH ρ h.next ⟨wd.heap.size,0,0⟩) (first++(.yield h.next::aX))).toArray,wd.alloc (.loop lp),?_,?_,fun _ _=>trivial,?_,fun hh=>by simp[FW,Fence.wide] at hh,?_⟩
 ·show(Instr.enterLoop fn a.tmps qs cx cy none).run P w=_;simp only[Instr.enterLoop,Sem.run_bind,run_newObj_alloc,Result.andThen,Sem.run_pure];rfl
 ·simp only[resolve];rw[show a.eval gq=real (iH ρ h.next ⟨wd.heap.size,0,0⟩) (.func (.func f) first aX) from vk.1];simp[Deferred.ofValue,real,Act.eval]
 ·simp only[invoke,tA]
  congr 2
  have:real (iH ρ h.next ⟨wd.heap.size,0,0⟩) (.yield h.next)=.func (.yield wd.heap.size) #[] #[]:=by simp[real,bO]
  simp[iF,au,this]
 ·have hda:bg (grow D h.next (h.next+1)) (first++(.yield h.next::aX)):=by
   rw[aM];intro z hz;rcases List.mem_append.1 hz with hz|hz
   ·exact(aM _ _).1 vk.2.2.1 z hz
   ·rcases List.mem_cons.1 hz with hz|hz
    ·rw[hz];simp only[AV.aR];exact .inr ⟨Nat.le_refl _,by omega⟩
    ·exact(aM _ _).1 vk.2.2.2 z hz
  refine CallsIn.mono (hc (iH ρ h.next ⟨wd.heap.size,0,0⟩) (grow D h.next (h.next+1)) (wd.alloc (.loop lp)) (n-1) hnew.1 hda) ?_;rintro en w3 ⟨iY,rfl,i2,x2,IQ⟩;have sS:(h.new (.loop 0 none e ps x y)).next=h.next+1:=rfl
  rw[sS] at i2 IQ;have hn2:h.next+1≤h2.next:=by have:=x2.next;rw[sS] at this;exact this
  have IF:=Ext.trans hi.lt AQ (by rw[sS];exact x2);have K8:=dD D (show h.next≤h.next+1 by omega) hn2;rw[K8] at i2 IQ;have LP:bJ iY (grow D h.next h2.next) N e {a with defers:=[{target:=.collected w.heap.size,args:=#[]}]++a.defers}:=by
   have:=he.mono (ρ':=iY) (D':=grow D h.next h2.next) (fun b hb=>IF.bx b hb) (fun _=>.inl);exact⟨this.size,this.get,this.dom⟩
  have Nj:jm tl W0 iY (grow D h.next h2.next) h2 w3 ([{target:=.collected w.heap.size,args:=#[]}]++a.defers):=by
   have m1:jm tl W0 (iH ρ h.next ⟨wd.heap.size,0,0⟩) (grow D h.next (h.next+1)) (h.new (.loop 0 none e ps x y)) (wd.alloc (.loop lp)) ([{target:=.collected w.heap.size,args:=#[]}]++a.defers):=by
    obtain⟨rs,q1,q2,q3⟩:=hm.ext hi.lt AQ;rw[sS] at q3;refine⟨w.heap.size::rs,by rw[q1];rfl,?_,?_⟩
    ·refine List.nodup_cons.2 ⟨?_,q2⟩;intro hmem;obtain⟨rs',U9,q2',Va⟩:=hm;have:rs=rs':=by
      have he:=q1.symm.trans U9;have he:=List.append_cancel_right he;have hinj:=congrArg (List.map (fun d:Deferred=>match d.target with|.collected r=>r|_=>0)) he;simpa[marksOf,Function.comp_def] using hinj
     rw[this] at hmem;have:=(Array.getElem?_eq_some_iff.1 (Va _ hmem).2.1).1;omega
    ·intro r hr;rcases List.mem_cons.1 hr with rfl|hr
     ·refine⟨hW,?_,?_⟩
      ·show((w.heap.push _).push _)[w.heap.size]?=_;rw[Array.getElem?_push,if_neg (by simp),Array.getElem?_push,if_pos rfl]
      ·rintro b (hb|⟨qm,jh⟩) hn
       ·rw[GB b hb];rw[Heap.bU,if_neg (by have:=hi.lt b hb;omega)] at hn;have:=hi.J4 hb hn;omega
       ·have:b=h.next:=by omega
        subst this;rw[bO];simp only;omega
     ·exact q3 r hr
   have:=m1.ext hnew.1.lt x2;rw[sS] at this;rw[←K8];exact this
  exact⟨iY,⟨rfl,IQ⟩,i2,IF,LP,Nj,fun hn=>by simp[aY] at hn⟩
end
end Ads
end Go.Proofs.Ytenafeojcgmnhaa
