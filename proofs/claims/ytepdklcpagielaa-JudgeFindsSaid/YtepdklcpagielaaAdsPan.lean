/-
  What big steps mean in the model: a round of a range over a function that panics.
-/
import Derived.Test.YtepdklcpagielaaAdsRange
set_option linter.unusedSimpArgs false
set_option linter.unusedVariables false
namespace Go.Proofs.Ytepdklcpagielaa
namespace Ads
section
variable {P:Program} {H0 W0:Nat} {ρ ρ':de} {D D':Dom} {h h' h1 h2:Heap} {w w':World} {N n:Nat} {env e e':Env} {a:Act} {ro:Option Nat} {rd:Bool}
theorem iq{m:Machine}:m.fenced P (FW ro):=by
 have:=fenced_wide P m;cases ro with
 |none=>exact this
 |some l=>exact this
theorem eo{ops:Array Oper}{Q:Exit→Act→World→Prop}(hQ:∀e a w,Q e a w→∃ch,e=.panic ch):∀(l:List Nat) (a:Act) (w:World),wpOpsIn (FW ro) n P ops Q l a w→
  ∀(b:Frame) (k:List Item) (cs:List Frame),b.roundOf=ro→∃ch a' w' l',Q (.panic ch) a' w'∧
   StepsIn (Machine.fenced P (FW ro)) P (lone (b.atR a (.inRegion ops l::k)) cs w) (lone {b.atR a' (.inRegion ops l'::k) with mode:=.panicking ch} cs w')
 |[],a,w,h,b,k,cs,hro=>by
  obtain⟨ch,hc⟩:=hQ _ _ _ h;simp at hc
 |i::rest,a,w,h,b,k,cs,hro=>by
  have hroom:∀m,(FW ro).room m:=fun m d hd=>by simp[FW,Fence.wide] at hd
  simp only[wpOpsIn] at h;cases ho:ops[i]? with
  |none=>
   simp only[ho] at h;obtain⟨ch,a',w',l',hq,hs⟩:=eo hQ rest a w h b k cs hro;have s1:=stepR_op_skip (P:=P) (b:=b) (a:=a) (k:=k) (cs:=cs) (w:=w) (ops:=ops) (i:=i) (rest:=rest) (by simp[ho]);simp only[ho,Option.bind_none,Act.put] at s1;exact⟨ch,a',w',l',hq,.head iq s1 hs⟩
  |some o=>
   simp only[ho] at h;by_cases hw:Region.wanted o (yielded ops a.tmps)=true
   ·simp only[hw,if_true,Oper.wpIn] at h;obtain⟨_,h⟩:=h;have hg:=stepGR_op (P:=P) (b:=b) (k:=k) (cs:=cs) (w:=w) (rest:=rest) ho hw;rw[hro] at hg;have jM:∀v,(b.atR a (.inRegion ops (i::rest)::k)).finish v=b.atR (a.put o.dst v) (.inRegion ops rest::k):=by
     intro v;rw[Frame.finish_atR,ho];rfl
    have SJ:(FW ro).round=ro:=rfl;rw[SJ] at h;simp only[Oper.uponIn] at h;split at h
    ·rename_i v w' hr';obtain⟨ch,a',w'',l',hq,hs⟩:=eo hQ rest _ _ h b k cs hro;refine⟨ch,a',w'',l',hq,.head iq (step_lone_go ?_) hs⟩;rw[hg,←jM];simp[stepG.apply,hr']
    ·rename_i w' hr';obtain⟨ch,a',w'',l',hq,hs⟩:=eo hQ rest _ _ h b k cs hro;refine⟨ch,a',w'',l',hq,.head iq (step_lone_go ?_) hs⟩;rw[hg,←jM];simp[stepG.apply,hr']
    ·rename_i d w' hr';obtain⟨ch,a',w'',l',hq,hs⟩:=eo hQ rest _ _ h b k cs hro;refine⟨ch,a',w'',l',hq,.head iq (step_lone_go ?_) hs⟩;have:({b.atR a (.inRegion ops (i::rest)::k) with defers:=d::a.defers}:Frame).finish undef=
       b.atR ({a with defers:=d::a.defers}.put o.dst undef) (.inRegion ops rest::k):=by
      have:=Frame.finish_atR b {a with defers:=d::a.defers} ops i rest k undef;rw[ho] at this;exact this
     rw[hg];simp only[stepG.apply,Sem.runT_eq,hr',GStep.bare_after];exact congrArg (fun fr=>GStep.go {frame:=fr,callers:=cs,status:=.running,dying:=none} w') this
    ·rename_i f args w' hr';obtain⟨_,_,h⟩:=h;obtain⟨e,w'',fr,hR,uw,hfn,Lp⟩:=h (b.atR a (.inRegion ops (i::rest)::k)::cs) (hroom _);have uu:step P (lone (b.atR a (.inRegion ops (i::rest)::k)) cs w)=
       .next (lone (Frame.enter P f args .normal) (b.atR a (.inRegion ops (i::rest)::k)::cs) w'):=
      step_lone_go (by rw[hg];simp[stepG.apply,hr',Frame.atR])
     cases e with
     |returned v=>
      obtain⟨ch,a',w₃,l',hq,hs⟩:=eo hQ rest _ _ hR b k cs hro;refine⟨ch,a',w₃,l',hq,.head iq uu (StepsIn.trans uw (.head iq ?_ hs))⟩;rw[←jM];exact step_leave_returned Lp
     |panicked chain=>
      refine⟨chain,a,w'',i::rest,hR,.head iq uu (StepsIn.trans uw (.one iq ?_))⟩;rw[←Frame.raise_atR];exact step_leave_panicked Lp
     |outgrown=>
      obtain⟨a₀,w₀,hq⟩:=hR;obtain⟨ch,hc⟩:=hQ _ _ _ hq;simp at hc
    ·rename_i row args w' hr';obtain⟨_,h⟩:=h;obtain⟨v,w'',hR,uw⟩:=h (b.atR a (.inRegion ops (i::rest)::k)) cs (hroom _);have uu:step P (lone (b.atR a (.inRegion ops (i::rest)::k)) cs w)=
       .next (lone (Frame.ofRow P row args .normal) (b.atR a (.inRegion ops (i::rest)::k)::cs) w'):=
      step_lone_go (by rw[hg];simp[stepG.apply,hr',Frame.atR])
     obtain⟨ch,a',w₃,l',hq,hs⟩:=eo hQ rest _ _ hR b k cs hro;refine⟨ch,a',w₃,l',hq,.head iq uu (StepsIn.trans uw ?_)⟩;rw[jM];exact hs
    ·rename_i l f tmps assign body w' hr';obtain⟨_,_,h⟩:=h;obtain⟨e,w'',hR,uw⟩:=h (b.atR a (.inRegion ops (i::rest)::k)) cs (hroom _);have uu:step P (lone (b.atR a (.inRegion ops (i::rest)::k)) cs w)=
       .next (lone (Frame.round l f tmps assign body .normal) (b.atR a (.inRegion ops (i::rest)::k)::cs) w'):=
      step_lone_go (by rw[hg];simp[stepG.apply,hr',Frame.atR])
     cases e with
     |returned v=>
      obtain⟨ch,a',w₃,l',hq,hs⟩:=eo hQ rest _ _ hR b k cs hro;refine⟨ch,a',w₃,l',hq,.head iq uu (StepsIn.trans uw ?_)⟩;simp only[];rw[jM];exact hs
     |panicked chain=>
      refine⟨chain,a,w'',i::rest,hR,.head iq uu uw⟩
     |outgrown=>
      obtain⟨a₀,w₀,hq⟩:=hR;obtain⟨ch,hc⟩:=hQ _ _ _ hq;simp at hc
    ·rename_i v w' hr';refine⟨_,a,w',i::rest,h,.one iq (step_lone_go ?_)⟩;rw[hg,←Frame.raise_atR];simp[stepG.apply,hr']
    ·exact h.elim
   ·simp only[hw,if_false,Bool.false_eq_true] at h;obtain⟨_,h⟩:=h;obtain⟨ch,a',w',l',hq,hs⟩:=eo hQ rest _ _ h b k cs hro;have s1:=stepR_op_skip (P:=P) (b:=b) (a:=a) (k:=k) (cs:=cs) (w:=w) (ops:=ops) (i:=i) (rest:=rest)
     (by simp[ho];simpa using hw)
    simp only[ho,Option.bind_some] at s1;exact⟨ch,a',w',l',hq,.head iq s1 hs⟩
theorem step_scope{b:Frame}{c:Code}{k:List Item}{cs:List Frame}:step P (lone (b.atR a (.code (.scope c)::k)) cs w)=.next (lone (b.atR a (.code c::.inScope c::k)) cs w):=
 step_lone_go (by simp[stepG,stepG.exec,Frame.atR])
def tN(ro:Option Nat)(P:Program)(code:Code)(Q:List PanicEntry→Act→World→Prop)(a:Act)(w:World):Prop:=
 ∀(b:Frame) (k:List Item) (cs:List Frame),b.roundOf=ro→∃ch a' w' ops l' k',Q ch a' w'∧
  StepsIn (Machine.fenced P (FW ro)) P (lone (b.atR a (.code code::k)) cs w) (lone {b.atR a' (.inRegion ops l'::k') with mode:=.panicking ch} cs w')
theorem qn{code c:Code}{Q:List PanicEntry→Act→World→Prop}(hs:∀(b:Frame) (k:List Item) (cs:List Frame),∃k',step P (lone (b.atR a (.code code::k)) cs w)=.next (lone (b.atR a (.code c::k')) cs w))
  (hp:tN ro P c Q a w):tN ro P code Q a w:=by
 intro b k cs hro;obtain⟨k0,h0⟩:=hs b k cs;obtain⟨ch,a',w',ops,l',k',hq,hst⟩:=hp b k0 cs hro;exact⟨ch,a',w',ops,l',k',hq,.head iq h0 hst⟩
theorem Jl{x y:Code}{Q:List PanicEntry→Act→World→Prop}(hx:x.wpIn (FW ro) n P (fun ex a' w'=>ex=.normal∧tN ro P y Q a' w') a w):tN ro P (.seq x y) Q a w:=by
 intro b k cs hro;obtain⟨ex,a1,w1,⟨rfl,hy⟩,iG⟩:=hx b (.code y::k) cs hro (by cases ro<;>trivial) (fun d hd=>by simp[FW,Fence.wide] at hd);obtain⟨ch,a',w',ops,l',k',hq,hst⟩:=hy b k cs hro;exact⟨ch,a',w',ops,l',k',hq,.head iq stepR_seq (StepsIn.trans iG hst)⟩
def Ij(P:Program)(H0:Nat)(ρ:de)(D:Dom)(h:Heap)(w:World)(v:AV)(h2:Heap):List PanicEntry→Act→World→Prop:=fun ch a' w'=>
 a'.defers=[]∧∃ρ',ch=[{v:=real ρ' v,recovered:=false}]∧Inv P H0 ρ' (grow D h.next h2.next) h2 w'∧Ext ρ D h w ρ' h2 w'∧v.bq (grow D h.next h2.next)
theorem Jk{l1 l2:List bK}{i:bK}{tr:List aQ}{v:AV}(mD:OT P H0 l1 e h tr e' h')(hw0:cz i e'=true)(hop:i.op≠.bad∧oJ P H0 i.op (i.args.map e'.ev) h' v h2):∀{code:Code},aK P code=.ops (l1++i::l2)→
  dQ N (l1++i::l2)=true→∀{a:Act},Inv P H0 ρ D h w→cg ρ D N e a→a.defers=[]→tN ro P code (Ij P H0 ρ D h w v h2) a w:=by
 intro code;induction code with
 |scope c' ih=>
  intro hc hN a hi he hd;exact qn (c:=c') (fun b k cs=>⟨_,step_scope⟩) (ih (by simpa[aK] using hc) hN hi he hd)
 |region id os draw=>
  intro hc hN a hi he hd b k cs hro;obtain⟨id',os',hcd,hos⟩:=eP (code:=.region id os draw) rfl hc;simp only[Code.region.injEq] at hcd;obtain⟨_,rfl,rfl⟩:=hcd;rw[s9,Bool.and_eq_true] at hN;have hl:wpListIn (FW ro) 0 P os (fun ex a' w'=>∃ch,ex=.panic ch∧Ij P H0 ρ D h w v h2 ch a' w') os.toList a w:=by
   refine lS mD hw0 hop.1 hop.2 hos hN.1 hi he ?_;intro ρ' w' a' g1 g2 g3 g4 g5;exact⟨_,rfl,g4.trans hd,ρ',rfl,g1,g2,g5⟩
  have V3:wpOpsIn (FW ro) 0 P os (fun ex a' w'=>∃ch,ex=.panic ch∧Ij P H0 ρ D h w v h2 ch a' w') (List.range os.size) a w:=by
   rw[List.range_eq_range',←Array.length_toList,wpOpsIn_eq_wpListIn os.toList 0 (by simp)];exact hl
  obtain⟨ch,a',w',l',⟨ch',hch,hq⟩,hst⟩:=eo (fun e a w hh=>by obtain⟨ch,hc,_⟩:=hh;exact⟨ch,hc⟩) _ a w V3 b k cs hro;cases hch
  exact⟨ch,a',w',os,l',k,hq,.head iq stepR_region hst⟩
 |_=>intro hc;obtain⟨_,_,hcd,_⟩:=eP rfl hc;simp at hcd
theorem Gp{A B:AC}{v:AV}{e1:Env}(hA:bW P H0 true A e h .normal e1 h1)(Hy:bp A=true)
  (hB:∀{code:Code},aK P code=B→codeOk N B=true→∀{ρ:de} {D:Dom} {w:World} {a:Act},Inv P H0 ρ D h1 w→cg ρ D N e1 a→a.defers=[]→tN (some n) P code (Ij P H0 ρ D h1 w v h2) a w):
  ∀{code:Code},aK P code=.seq A B→codeOk N (.seq A B)=true→∀{a:Act},Inv P H0 ρ D h w→cg ρ D N e a→a.defers=[]→tN (some n) P code (Ij P H0 ρ D h w v h2) a w:=by
 intro code;induction code with
 |scope c' ih=>
  intro hc hN a hi he hd;exact qn (c:=c') (fun b k cs=>⟨_,step_scope⟩) (ih (by simpa[aK] using hc) hN hi he hd)
 |seq x y _ _=>
  intro hc hN a hi he hd;simp only[aK,AC.seq.injEq] at hc;simp only[codeOk,Bool.and_eq_true] at hN;refine Jl (n:=0) ?_;have hm0:kB [] w.heap.size ρ D h w a.defers:=⟨[],by rw[hd];rfl,List.nodup_nil,fun r hr=>by simp at hr⟩;refine Code.wpIn_mono ?_ (hA x hc.1 N hN.1 (some n) rfl ρ D w a w.heap.size 0 [] hi he hm0 (Nat.le_refl _));rintro ex a' w' ⟨ρ',hex,g1,g2,g3,g4,g5⟩;refine⟨hex,?_⟩;intro b k cs hro;obtain⟨ch,a2,w2,ops,l',k',⟨q1,j4,q2,q3,q4,q5⟩,hst⟩:=hB hc.2 hN.2 g1 g3 ((g5 Hy).trans hd) b k cs hro;have hn2:=q4.next;rw[eD D g2.next hn2] at q3 q5;exact⟨ch,a2,w2,ops,l',k',⟨q1,j4,q2,q3,Ext.trans hi.lt g2 q4,q5⟩,hst⟩
 |_=>intro hc hN;obtain⟨_,_,hcd,_⟩:=gG rfl hc;simp at hcd
theorem Ew{id:Nat}{c:AC}{Q:List PanicEntry→Act→World→Prop}(hB:∀{code:Code},aK P code=c→tN ro P code Q a w):∀{code:Code},aK P code=.block id c→tN ro P code Q a w:=by
 intro code;induction code with
 |scope c' ih=>
  intro hc;exact qn (c:=c') (fun b k cs=>⟨_,step_scope⟩) (ih (by simpa[aK] using hc))
 |block i x _=>
  intro hc;simp only[aK,AC.block.injEq] at hc;exact qn (c:=x) (fun b k cs=>⟨_,stepR_block⟩) (hB hc.2)
 |_=>intro hc;obtain⟨_,hcd,_⟩:=kD rfl hc;simp at hcd
theorem GD{L:Nat}{args:List AV}{cF cU:Option AX}{ps:List Nat}{x A:AC}{id:Nat}{l1 l2:List bK}{i:bK}{e2 e3 e4:Env}{h3 h4 h5:Heap}{tr:List aQ}{v:AV}
  (hg:h.get L=some (.loop 0 cF e ps x (.block id (.seq A (.ops (l1++i::l2))))))(hlen:args.length=ps.length)(Dg:bW P H0 true x (gL ps args e) h .normal e2 h2)(ir:bp x=true)
  (Az:h2.get L=some (.loop 0 cU e ps x (.block id (.seq A (.ops (l1++i::l2))))))(Hy:bp A=true)
  (hA:bW P H0 true A e2 (h2.set L (.loop 1 cU e ps x (.block id (.seq A (.ops (l1++i::l2)))))) .normal e3 h3)
  (mD:OT P H0 l1 e3 h3 tr e4 h4)(hw0:cz i e4=true)(hop:i.op≠.bad∧oJ P H0 i.op (i.args.map e4.ev) h4 v h5):sG P H0 (.yield L) args h v h5:=by
 generalize hy:(AC.block id (.seq A (.ops (l1++i::l2))))=y at*;intro ρ D w hi hf hd o a ro n next Q hk
 simp only[AV.bq] at hf;obtain⟨_,r,hr,hst,hpd,Wm,yR,hps,hca,hcb,SD,SE,Si⟩:=hi.cj L _ hf hg;have hsz:args.length=r.params.size:=by rw[hlen,←hps];simp
 have hrun:((do let d ←Deferred.ofValue (real ρ (.yield L)) (aA ρ args).toArray;invoke d.target d.args:Sem Next).run P w)=
   .ok (.round (ρ L).cj r.fn ((ps.zip (aA ρ args)).foldl (fun tmps p=>tmps.setIfInBounds p.1 p.2) r.tmps) r.assign r.body) w:=by
  simp only[real,Deferred.ofValue,Sem.run_bind,Sem.run_pure,Result.andThen,invoke,Instr.yield,run_getLoop hr];rw[if_neg (by simp[aU,hsz])];simp only[Sem.run_pure]
  congr 2
  rw[←hps];rw[←Array.foldl_toList];simp
 rw[hrun];refine⟨fun hh=>by simp[FW,Fence.wide] at hh,trivial,fun c cs _=>?_⟩;have Lk:=rW (ρ:=ρ) (D:=D) (ps:=ps) (args:=args) (e:=e) (tmps:=r.tmps) hlen.symm Si rfl Wm yR hd;have hm0:kB [] w.heap.size ρ D h w ([]:List Deferred):=⟨[],rfl,List.nodup_nil,fun r hr=>by simp at hr⟩
 let b:Frame:={(default:Frame) with fn:=r.fn,kind:=.normal,roundOf:=some (ρ L).cj}
 have hb0:Frame.round (ρ L).cj r.fn ((ps.zip (aA ρ args)).foldl (fun tmps p=>tmps.setIfInBounds p.1 p.2) r.tmps) r.assign r.body .normal=b.atR {tmps:=(ps.zip (aA ρ args)).foldl (fun tmps p=>tmps.setIfInBounds p.1 p.2) r.tmps,defers:=[]} [.code r.assign,.beginRound,.code r.body]:=by
  simp[Frame.round,Frame.atR,b]
 obtain⟨ex,a1,w1,⟨sF,hex,i1,x1,IN,m1,nd1⟩,iG⟩:=Dg r.assign hca r.tmps.size SD (some (ρ L).cj) rfl ρ D w _ w.heap.size 0 [] hi Lk hm0 (Nat.le_refl _) b [.beginRound,.code r.body] (c::cs) rfl trivial (fun d hd=>by simp[FW,Fence.wide] at hd);have hex:ex=.normal:=hex;subst hex;have D2:a1.defers=[]:=nd1 ir;have Nr:grow D h.next h2.next L:=.inl hf;have xN:=x1.bS L hf;obtain⟨_,r1,xX,SK,SF,SP,Ss,SH,Sl,So,Lr,Lt,Lf⟩:=i1.cj L _ Nr Az;have BA:=vl i1 Nr Az xX (st':=1) (mT:=cU) (r':={r1 with state:=.busy}) ⟨rfl,SF,SP,Ss,SH,Sl,So,Lr,Lt,Lf⟩;have LG:r1.state=.ready:=SK;have Ax:(Instr.beginRound (ρ L).cj).run P w1=.ok () (setRow w1 (sF L).cj (.loop {r1 with state:=.busy})):=by
  rw[←xN];simp only[Instr.beginRound,Sem.run_bind,run_getLoop xX,Result.andThen,qw xX (fun _ _ _=>by simp),LG,Sem.run_pure]
 have hi1:=BA.1;have hx1:=BA.2;have hbody:tN (some (ρ L).cj) P r.body (Ij P H0 sF (grow D h.next h2.next) (h2.set L (.loop 1 cU e ps x y)) (setRow w1 (sF L).cj (.loop {r1 with state:=.busy})) v h5) a1 (setRow w1 (sF L).cj (.loop {r1 with state:=.busy})):=by
  subst hy;refine Ew (fun{code} hc=>?_) hcb;exact Gp hA Hy (fun{code} hc hN {ρ D w a} gi ge gd=>Jk mD hw0 hop hc hN gi ge gd) hc SE hi1 IN D2
 obtain⟨ch,a2,w2,ops,l',k',⟨q1,j4,q2,q3,q4,q5⟩,hst⟩:=hbody b [] (c::cs) rfl;subst q2;have g1:=x1.next;have g2:=q4.next;rw[show(h2.set L (.loop 1 cU e ps x y)).next=h2.next from rfl] at g2 q3 q5;rw[eD D g1 g2] at q3 q5;have xb:Ext sF (grow D h.next h2.next) h2 w1 j4 h5 w2:=Ext.trans i1.lt hx1 (by
  rw[show(h2.set L (.loop 1 cU e ps x y)).next=h2.next from rfl,bF];exact q4)
 refine⟨.panicked [{v:=real j4 v,recovered:=false}],w2,hk j4 w2 q3 (Ext.trans hi.lt x1 xb) q5,?_⟩;show StepsIn _ P _ _;rw[hb0];refine StepsIn.trans iG (.head iq (stepR_beginRound rfl Ax) (StepsIn.trans hst (.one iq ?_)));exact step_lone_go (by cases hq:P.funcs[r.fn]?<;>simp[stepG,unwind,Frame.catches,Frame.atR,q1,b,hq])
theorem GB{g:bV}{ps:List Nat}{x y:AC}{f:Nat}{first aN:List AV}{v:AV}(hg:e.ev g=.func (.func f) first aN)
  (hc:oV P H0 f (first++(.yield h.next::aN)) (h.new (.loop 0 none e ps x y)) v h2)(wu:∀(args:Array Value) (w:World),(callFunc f args).run P w=.ok (.enter f args) w):
  bW P H0 false (.rangeFunc g ps x y) e h (.panic v) e h2:=by
 refine dy fun code hs fh N hN ro hro ρ D w a W0 n tl hi he hm hW=>?_;obtain⟨gq,qs,cx,cy,rfl,Y4,hqs,hx,hy⟩:=q9 hs fh;have yZ:ro=none:=by cases ro<;>simp_all
 subst yZ;simp only[codeOk,Bool.and_eq_true] at hN;refine wpIn_rangeFunc ?_;intro fn _
 let wd:=w.alloc (.deferred (some []))
 have hwd:wd.heap.size=w.heap.size+1:=by show(w.heap.push _).size=_;simp
 let lp:Loop:={state:=.ready,pending:=none,fn:=fn,tmps:=a.tmps,params:=qs,assign:=cx,body:=cy,defers:=w.heap.size}
 have yY:=Eh hi (.deferred (some []));have Ld:∀b,D b→mL ρ h.next ⟨wd.heap.size,0,0⟩ b=ρ b:=fun b hb=>lJ _ _ (by have:=hi.lt b hb;omega);have vL:cg (mL ρ h.next ⟨wd.heap.size,0,0⟩) (grow D h.next (h.next+1)) N e a:=he.mono Ld (fun _=>.inl);have hnew:=sq (w:=wd) (w':=wd.alloc (.loop lp)) yY.1 (.loop 0 none e ps x y) 0 (.loop lp) rfl rfl rfl rfl
  ⟨yY.1.low,lp,kX wd _,rfl,rfl,vL.get,vL.dom,hqs,hx,hy,by rw[show lp.tmps.size=N from he.size];exact hN.1.2,by rw[show lp.tmps.size=N from he.size];exact hN.2,by rw[show lp.tmps.size=N from he.size];exact hN.1.1⟩
 have D4:Ext ρ D h w (mL ρ h.next ⟨wd.heap.size,0,0⟩) (h.new (.loop 0 none e ps x y)) (wd.alloc (.loop lp)):=Ext.trans hi.lt yY.2 (by rw[bF];exact hnew.2);have yU:=aM vL Y4;rw[hg] at yU;simp only[AV.bq] at yU;refine⟨wd.heap.size,[{target:=.collected w.heap.size,args:=#[]}],wd.alloc (.loop lp),{target:=.fn (.func f) (aA (mL ρ h.next ⟨wd.heap.size,0,0⟩) aN).toArray,args:=(aA (mL ρ h.next ⟨wd.heap.size,0,0⟩) first).toArray++#[.func (.yield wd.heap.size) #[] #[]]},wd.alloc (.loop lp),f,
  (aA (mL ρ h.next ⟨wd.heap.size,0,0⟩) (first++(.yield h.next::aN))).toArray,wd.alloc (.loop lp),?_,?_,fun _ _=>trivial,?_,fun hh=>by simp[FW,Fence.wide] at hh,?_⟩
 ·show(Instr.enterLoop fn a.tmps qs cx cy none).run P w=_;simp only[Instr.enterLoop,Sem.run_bind,run_newObj_alloc,Result.andThen,Sem.run_pure];rfl
 ·simp only[resolve];rw[show a.eval gq=real (mL ρ h.next ⟨wd.heap.size,0,0⟩) (.func (.func f) first aN) from yU.1];simp[Deferred.ofValue,real,Act.eval]
 ·simp only[invoke,wu]
  congr 2
  have:real (mL ρ h.next ⟨wd.heap.size,0,0⟩) (.yield h.next)=.func (.yield wd.heap.size) #[] #[]:=by simp[real,cw]
  simp[jg,aA,this]
 ·have hda:bE (grow D h.next (h.next+1)) (first++(.yield h.next::aN)):=by
   rw[aV];intro z hz;rcases List.mem_append.1 hz with hz|hz
   ·exact(aV _ _).1 yU.2.2.1 z hz
   ·rcases List.mem_cons.1 hz with hz|hz
    ·rw[hz];simp only[AV.bq];exact .inr ⟨Nat.le_refl _,by omega⟩
    ·exact(aV _ _).1 yU.2.2.2 z hz
  refine CallsIn.mono (hc (mL ρ h.next ⟨wd.heap.size,0,0⟩) (grow D h.next (h.next+1)) (wd.alloc (.loop lp)) (n-1) hnew.1 hda) ?_;rintro en w3 ⟨j4,rfl,i2,x2,Ny⟩;have ir:(h.new (.loop 0 none e ps x y)).next=h.next+1:=rfl
  rw[ir] at i2 Ny;have hn2:h.next+1≤h2.next:=by have:=x2.next;rw[ir] at this;exact this
  have Nn:=Ext.trans hi.lt D4 (by rw[ir];exact x2);have Q7:=eD D (show h.next≤h.next+1 by omega) hn2;rw[Q7] at i2 Ny;have RT:cg j4 (grow D h.next h2.next) N e {a with defers:=[{target:=.collected w.heap.size,args:=#[]}]++a.defers}:=by
   have:=he.mono (ρ':=j4) (D':=grow D h.next h2.next) (fun b hb=>Nn.bS b hb) (fun _=>.inl);exact⟨this.size,this.get,this.dom⟩
  have Ti:kB tl W0 j4 (grow D h.next h2.next) h2 w3 ([{target:=.collected w.heap.size,args:=#[]}]++a.defers):=by
   have m1:kB tl W0 (mL ρ h.next ⟨wd.heap.size,0,0⟩) (grow D h.next (h.next+1)) (h.new (.loop 0 none e ps x y)) (wd.alloc (.loop lp)) ([{target:=.collected w.heap.size,args:=#[]}]++a.defers):=by
    obtain⟨rs,q1,q2,q3⟩:=hm.ext hi.lt D4;rw[ir] at q3;refine⟨w.heap.size::rs,by rw[q1];rfl,?_,?_⟩
    ·refine List.nodup_cons.2 ⟨?_,q2⟩;intro hmem;obtain⟨rs',q1',q2',q3'⟩:=hm;have:rs=rs':=by
      have he:=q1.symm.trans q1';have he:=List.append_cancel_right he;have hinj:=congrArg (List.map (fun d:Deferred=>match d.target with|.collected r=>r|_=>0)) he;simpa[marksOf,Function.comp_def] using hinj
     rw[this] at hmem;have:=(Array.getElem?_eq_some_iff.1 (q3' _ hmem).2.1).1;omega
    ·intro r hr;rcases List.mem_cons.1 hr with rfl|hr
     ·refine⟨hW,?_,?_⟩
      ·show((w.heap.push _).push _)[w.heap.size]?=_;rw[Array.getElem?_push,if_neg (by simp),Array.getElem?_push,if_pos rfl]
      ·rintro b (hb|⟨ox,iH⟩) hn
       ·rw[Ld b hb];rw[Heap.cB,if_neg (by have:=hi.lt b hb;omega)] at hn;have:=hi.PD hb hn;omega
       ·have:b=h.next:=by omega
        subst this;rw[cw];simp only;omega
     ·exact q3 r hr
   have:=m1.ext hnew.1.lt x2;rw[ir] at this;rw[←Q7];exact this
  exact⟨j4,⟨rfl,Ny⟩,i2,Nn,RT,Ti,fun hn=>by simp[bp] at hn⟩
end
end Ads
end Go.Proofs.Ytepdklcpagielaa
