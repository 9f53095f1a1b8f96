/-
  What big steps mean in the model: code.
-/
import Derived.Test.YtnlcabhfkpafmaaGreatAdsSem
set_option linter.unusedSimpArgs false
set_option linter.unusedVariables false
namespace Go.Proofs.YtnlcabhfkpafmaaGreat
namespace Ads
section
variable {P:Program} {H0 W0:Nat} {ρ ρ':cE} {D D':Dom} {h h' h1:Heap} {w w':World} {N n:Nat} {env e e':Env} {a:Act} {ro:Option Nat} {rd:Bool}
variable {F:Fence} {Q:Exit→Act→World→Prop}
theorem lU{c:Code}(hq:∀l a w,¬Q (.goto l) a w)(h:c.wpIn F n P Q a w):(Code.scope c).wpIn F n P Q a w:=by
 intro b k cs hro hb hr;obtain⟨e,a₁,w₁,m0,ig⟩:=h b (.inScope c::k) cs hro hb hr;have s0:step P (lone (b.atR a (.code (.scope c)::k)) cs w)=.next (lone (b.atR a (.code c::.inScope c::k)) cs w):=
  step_lone_go (by simp[stepG,stepG.exec,Frame.atR])
 have s1:∀(a:Act) (w:World),step P (lone (b.atR a (.inScope c::k)) cs w)=.next (lone (b.atR a k) cs w):=fun a w=>
  step_lone_go (by simp[stepG,stepG.exec,Frame.atR])
 have f0:(lone (b.atR a (.code (.scope c)::k)) cs w).fenced P F:=fenced_calm hb hr rfl;have hs:StepsIn (Machine.fenced P F) P (lone (b.atR a (.code (.scope c)::k)) cs w) (lone (b.atR a (.code c::.inScope c::k)) cs w):=.one f0 s0;cases e with
 |normal=>exact⟨.normal,a₁,w₁,m0,hs.trans (StepsIn.trans ig (.one (fenced_calm (fr:=b.atR a₁ (.inScope c::k)) hb hr rfl) (s1 a₁ w₁)))⟩
 |exit id=>
  refine⟨.exit id,a₁,w₁,m0,fun k' hk=>hs.trans (ig.1 k' (by simp[exitTo,hk])),fun hr hk=>?_⟩;obtain⟨k₁,h1,h2⟩:=ig.2 hr (by simp[exitTo,hk]);exact⟨k₁,h1,hs.trans h2⟩
 |goto l=>exact absurd m0 (hq l a₁ w₁)
 |ret=>exact⟨_,a₁,w₁,m0,fun hr=>let⟨todo,h1⟩:=ig.1 hr;⟨todo,hs.trans h1⟩,fun hr=>let⟨k₁,h1⟩:=ig.2 hr;⟨k₁,hs.trans h1⟩⟩
 |panic ch=>obtain⟨todo,h1⟩:=ig;exact⟨_,a₁,w₁,m0,todo,hs.trans h1⟩
 |outgrown=>exact⟨_,a₁,w₁,m0,ig.imp id (Outgrown.of_steps hs.steps)⟩
theorem mM{c:Code}(h:c.wpIn F n P (Exit.then (rO F n P c Q) Q) a w):rO F n P c Q a w:=by
 intro b k cs hro hb hr;obtain⟨e,a₁,w₁,hq,ig⟩:=h b (.inLoop c::k) cs hro hb hr;cases e with
 |normal=>
  obtain⟨e₂,a₂,w₂,Uf,Nd⟩:=hq b k cs hro hb hr;have s1:step P (lone (b.atR a₁ (.inLoop c::k)) cs w₁)=.next (lone (b.atR a₁ (.code c::.inLoop c::k)) cs w₁):=
   step_lone_go (by simp[stepG,stepG.exec,Frame.atR])
  exact⟨e₂,a₂,w₂,Uf,.of_steps (StepsIn.trans ig (.one (fenced_calm (fr:=b.atR a₁ (.inLoop c::k)) hb hr rfl) s1)) Nd⟩
 |exit id=>exact⟨_,a₁,w₁,hq,.pass (x:=.inLoop c) rfl (fun _ _=>.inl (by simp)) ig⟩
 |goto l=>exact⟨_,a₁,w₁,hq,.pass (x:=.inLoop c) rfl (fun _ _=>.inl (by simp)) ig⟩
 |ret=>exact⟨_,a₁,w₁,hq,.pass (x:=.inLoop c) rfl (fun _ _=>.inl (by simp)) ig⟩
 |panic ch=>exact⟨_,a₁,w₁,hq,.pass (x:=.inLoop c) rfl (fun _ _=>.inl (by simp)) ig⟩
 |outgrown=>exact⟨_,a₁,w₁,hq,.pass (x:=.inLoop c) rfl (fun _ _=>.inl (by simp)) ig⟩
theorem pL{c:Code}(h:rO F n P c Q a w):(Code.loop c).wpIn F n P Q a w:=by
 intro b k cs hro hb hr;obtain⟨e,a₁,w₁,hq,ig⟩:=h b k cs hro hb hr;have s0:step P (lone (b.atR a (.code (.loop c)::k)) cs w)=.next (lone (b.atR a (.code c::.inLoop c::k)) cs w):=
  step_lone_go (by simp[stepG,stepG.exec,Frame.atR])
 exact⟨e,a₁,w₁,hq,.of_steps (.one (fenced_calm hb hr rfl) s0) ig⟩
def cW:Code→Bool
 |.scope _=>true
 |_=>false
theorem cH{c:AC}{x:AX}(Ij:∀(code:Code),cW code=false→aD P code=c→∀(N:Nat),codeOk N c=true→∀(ro:Option Nat),ro.isSome=rd→∀(ρ:cE) (D:Dom) (w:World) (a:Act) (W0 n:Nat) (tl:List Deferred),
  Inv P H0 ρ D h w→bI ρ D N e a→jC tl W0 ρ D h w a.defers→W0≤w.heap.size→code.wpIn (FW ro) n P (oh P H0 (bC c) a.defers tl W0 ρ D h w N x e' h') a w):bM P H0 rd c e h x e' h':=by
 intro code;induction code with
 |scope c' ih=>
  intro hc N hN ro hro ρ D w a W0 n tl hi he hm hW;refine lU ?_ (ih (by simpa[aD] using hc) N hN ro hro ρ D w a W0 n tl hi he hm hW);intro l a w hh;obtain⟨ρ',hx,_⟩:=hh;cases x<;>simp[G6] at hx
 |_=>intro hc N hN ro hro ρ D w a W0 n tl hi he hm hW;exact Ij _ rfl hc N hN ro hro ρ D w a W0 n tl hi he hm hW
theorem Dt{os:Array Oper}{draw:Bool}{l:List bF}(h:gK P os draw=.ops l):draw=false∧os.toList.map (bE P os)=l:=by
 unfold gK at h;cases draw with
 |false=>simp at h;exact⟨rfl,h⟩
 |true=>simp only[Bool.not_true,Bool.false_eq_true,if_false] at h;split at h<;>simp at h
theorem gU{os:Array Oper}{draw:Bool}:(∃l,gK P os draw=.ops l)∨(∃l win,gK P os draw=.cj l win)∨gK P os draw=.bad:=by
 unfold gK;cases draw with
 |false=>exact .inl ⟨_,by simp;rfl⟩
 |true=>
  simp only[Bool.not_true,Bool.false_eq_true,if_false];split
  ·exact .inr (.inl ⟨_,_,rfl⟩)
  ·exact .inr (.inr rfl)
theorem qi{nr:Bool}{tl:List Deferred}{x:AX}{ex:Exit}(hx:G6 ρ (grow D h.next h.next) x ex)(hi:Inv P H0 ρ D h w)(he:bI ρ D N e a)(hm:jC tl W0 ρ D h w a.defers):oh P H0 nr a.defers tl W0 ρ D h w N x e h ex a w:=by
 refine⟨ρ,hx,?_⟩;rw[bn];exact⟨hi,Ext.refl _ _ _ _,he,hm,fun _=>rfl⟩
theorem nV{nr UB:Bool}{ds ZY:List Deferred}{tl:List Deferred}{x:AX}{w1:World}{pN:cE}(hi:Inv P H0 ρ D h w)(x1:Ext ρ D h w pN h1 w1){ex:Exit}{a2:Act}{w2:World}(GP:nr=true→UB=true∧ZY=ds)
  (hp:oh P H0 UB ZY tl W0 pN (grow D h.next h1.next) h1 w1 N x e' h' ex a2 w2):oh P H0 nr ds tl W0 ρ D h w N x e' h' ex a2 w2:=by
 obtain⟨iU,hx,g1,g2,g3,g4,g5⟩:=hp;have hn:=g2.next;rw[dG D x1.next hn] at hx g1 g3 g4;exact⟨iU,hx,g1,Ext.trans hi.lt x1 g2,g3,g4,fun h=>(g5 (GP h).1).trans (GP h).2⟩
theorem qh{nr UB:Bool}{ds tl:List Deferred}{x:AX}{ex:Exit}{a2:Act}{w2:World}(GP:nr=true→UB=true)(hp:oh P H0 UB ds tl W0 ρ D h w N x e' h' ex a2 w2):oh P H0 nr ds tl W0 ρ D h w N x e' h' ex a2 w2:=by
 obtain⟨iU,hx,g1,g2,g3,g4,g5⟩:=hp;exact⟨iU,hx,g1,g2,g3,g4,fun h=>g5 (GP h)⟩
theorem vi{nr:Bool}{ds tl:List Deferred}{x:AX}{ex:Exit}{a2:Act}{w2:World}(hx:x.cA=false)(hp:oh P H0 nr ds tl W0 ρ D h w N x e' h' ex a2 w2):ex≠.normal∧(∀l,ex≠.goto l)∧ex≠.outgrown:=by
 obtain⟨iU,hx',_⟩:=hp;cases x with
 |normal=>simp[AX.cA] at hx
 |exit id=>have h:ex=.exit id:=hx';subst h;exact⟨by simp,by simp,by simp⟩
 |ret=>have h:ex=.ret:=hx';subst h;exact⟨by simp,by simp,by simp⟩
 |panic v=>obtain⟨h,_⟩:=hx';subst h;exact⟨by simp,by simp,by simp⟩
theorem fL{code:Code}{c d:AC}(hs:cW code=false)(h:aD P code=.seq c d):∃x y,code=.seq x y∧aD P x=c∧aD P y=d:=by
 cases code<;>simp[aD,cW] at h hs
 case region id os draw=>
  rcases gU (P:=P) (os:=os) (draw:=draw) with⟨l,hl⟩|⟨l,wn,hl⟩|hl<;>rw[hl] at h<;>simp at h
 case seq x y=>exact⟨x,y,rfl,h.1,h.2⟩
 case cond c x y=>split at h<;>simp at h
 case rangeFunc f ps x y=>split at h<;>simp at h
theorem qB{code:Code}{r:bG}{c d:AC}(hs:cW code=false)(h:aD P code=.cond r c d):∃q x y,code=.cond q x y∧dg q=some r∧aD P x=c∧aD P y=d:=by
 cases code<;>simp[aD,cW] at h hs
 case region id os draw=>
  rcases gU (P:=P) (os:=os) (draw:=draw) with⟨l,hl⟩|⟨l,wn,hl⟩|hl<;>rw[hl] at h<;>simp at h
 case cond q x y=>
  split at h
  ·rename_i r' hr;simp only[AC.cond.injEq] at h;exact⟨q,x,y,rfl,by rw[hr,h.1],h.2.1,h.2.2⟩
  ·simp at h
 case rangeFunc f ps x y=>split at h<;>simp at h
theorem jk{code:Code}{id:Nat}{c:AC}(hs:cW code=false)(h:aD P code=.block id c):∃x,code=.block id x∧aD P x=c:=by
 cases code<;>simp[aD,cW] at h hs
 case region id os draw=>
  rcases gU (P:=P) (os:=os) (draw:=draw) with⟨l,hl⟩|⟨l,wn,hl⟩|hl<;>rw[hl] at h<;>simp at h
 case cond c x y=>split at h<;>simp at h
 case block i x=>exact⟨x,by rw[h.1],h.2⟩
 case rangeFunc f ps x y=>split at h<;>simp at h
theorem qD{code:Code}{c:AC}(hs:cW code=false)(h:aD P code=.loop c):∃x,code=.loop x∧aD P x=c:=by
 cases code<;>simp[aD,cW] at h hs
 case region id os draw=>
  rcases gU (P:=P) (os:=os) (draw:=draw) with⟨l,hl⟩|⟨l,wn,hl⟩|hl<;>rw[hl] at h<;>simp at h
 case cond c x y=>split at h<;>simp at h
 case loop x=>exact⟨x,rfl,h⟩
 case rangeFunc f ps x y=>split at h<;>simp at h
theorem xo{code:Code}{id:Nat}(hs:cW code=false)(h:aD P code=.exit id):code=.exit id:=by
 cases code<;>simp[aD,cW] at h hs
 case region id os draw=>
  rcases gU (P:=P) (os:=os) (draw:=draw) with⟨l,hl⟩|⟨l,wn,hl⟩|hl<;>rw[hl] at h<;>simp at h
 case cond c x y=>split at h<;>simp at h
 case exit i=>rw[h]
 case rangeFunc f ps x y=>split at h<;>simp at h
theorem zm{code:Code}(hs:cW code=false)(h:aD P code=.ret):code=.ret:=by
 cases code<;>simp[aD,cW] at h hs
 case region id os draw=>
  rcases gU (P:=P) (os:=os) (draw:=draw) with⟨l,hl⟩|⟨l,wn,hl⟩|hl<;>rw[hl] at h<;>simp at h
 case cond c x y=>split at h<;>simp at h
 case ret=>rfl
 case rangeFunc f ps x y=>split at h<;>simp at h
theorem dV{code:Code}{l:List bF}(hs:cW code=false)(h:aD P code=.ops l):∃id os,code=.region id os false∧os.toList.map (bE P os)=l:=by
 cases code<;>simp[aD,cW] at h hs
 case region id os draw=>
  obtain⟨rfl,h2⟩:=Dt h;exact⟨id,os,rfl,h2⟩
 case cond c x y=>split at h<;>simp at h
 case rangeFunc f ps x y=>split at h<;>simp at h
theorem xp{code:Code}(hs:cW code=false)(h:aD P code=.skip):code=.skip∨∃l,code=.label l:=by
 cases code<;>simp[aD,cW] at h hs
 case region id os draw=>
  rcases gU (P:=P) (os:=os) (draw:=draw) with⟨l,hl⟩|⟨l,wn,hl⟩|hl<;>rw[hl] at h<;>simp at h
 case skip=>exact .inl rfl
 case label l=>exact .inr ⟨l,rfl⟩
 case cond c x y=>split at h<;>simp at h
 case rangeFunc f ps x y=>split at h<;>simp at h
theorem oM{code:Code}{r:bG}{ps:List Nat}{c d:AC}(hs:cW code=false)(h:aD P code=.rangeFunc r ps c d):
  ∃g qs x y,code=.rangeFunc g qs x y∧dg g=some r∧qs.toList=ps∧aD P x=c∧aD P y=d:=by
 cases code<;>simp[aD,cW] at h hs
 case region id os draw=>
  rcases gU (P:=P) (os:=os) (draw:=draw) with⟨l,hl⟩|⟨l,wn,hl⟩|hl<;>rw[hl] at h<;>simp at h
 case cond c x y=>split at h<;>simp at h
 case rangeFunc g qs x y=>
  split at h
  ·rename_i r' hr;simp only[AC.rangeFunc.injEq] at h;exact⟨g,qs,x,y,rfl,by rw[hr,h.1],h.2.1,h.2.2.1,h.2.2.2⟩
  ·simp at h
theorem Kj:bM P H0 rd .skip e h .normal e h:=by
 refine cH fun code hs hc N hN ro hro ρ D w a W0 n tl hi he hm hW=>?_;rcases xp hs hc with rfl|⟨l,rfl⟩
 ·exact wpIn_skip (qi rfl hi he hm)
 ·exact wpIn_label (qi rfl hi he hm)
theorem Kf{id:Nat}:bM P H0 rd (.exit id) e h (.exit id) e h:=by
 refine cH fun code hs hc N hN ro hro ρ D w a W0 n tl hi he hm hW=>?_;rw[xo hs hc];exact wpIn_exit (qi rfl hi he hm)
theorem ON:bM P H0 rd .ret e h .ret e h:=by
 refine cH fun code hs hc N hN ro hro ρ D w a W0 n tl hi he hm hW=>?_;rw[zm hs hc];exact wpIn_ret (qi rfl hi he hm)
theorem OM{l:List bF}{tr:List aM}(kz:OT P H0 l e h tr e' h'):bM P H0 rd (.ops l) e h .normal e' h':=by
 refine cH fun code hs hc N hN ro hro ρ D w a W0 n tl hi he hm hW=>?_;obtain⟨id,os,rfl,hos⟩:=dV hs hc;refine wpIn_region_list ?_;refine nT kz hos hN hi he ?_;intro ρ' w' a' g1 g2 g3 g4;exact⟨ρ',rfl,g1,g2,g3,by rw[g4];exact hm.ext hi.lt g2,fun _=>g4⟩
theorem Kg{l l2:List bF}{i0:bF}{tr:List aM}{v:AV}{h2:Heap}(kz:OT P H0 l e h tr e' h')(hw0:cD i0 e'=true)(hop:i0.op≠.bad∧mD P H0 i0.op (i0.args.map e'.ev) h' v h2):bM P H0 rd (.ops (l++i0::l2)) e h (.panic v) e' h2:=by
 refine cH fun code hs hc N hN ro hro ρ D w a W0 n tl hi he hm hW=>?_;obtain⟨id,os,rfl,hos⟩:=dV hs hc;refine wpIn_region_list ?_;have SJ:cV N (l++i0::l2)=true:=hN;rw[qc,Bool.and_eq_true] at SJ;refine jS kz hw0 hop.1 hop.2 hos SJ.1 hi he ?_;intro ρ' w' a' g1 g2 g3 g4 g5;exact⟨ρ',⟨rfl,g5⟩,g1,g2,g3,by rw[g4];exact hm.ext hi.lt g2,fun _=>g4⟩
theorem Kh{c d:AC}{e1:Env}{x:AX}(tE:bM P H0 rd c e h .normal e1 h1)(QA:bM P H0 rd d e1 h1 x e' h'):bM P H0 rd (.seq c d) e h x e' h':=by
 refine cH fun code hs hc N hN ro hro ρ D w a W0 n tl hi he hm hW=>?_;obtain⟨y,z,rfl,hy,hz⟩:=fL hs hc;simp only[codeOk,Bool.and_eq_true] at hN;refine wpIn_seq ?_;refine Code.wpIn_mono ?_ (tE y hy N hN.1 ro hro ρ D w a W0 n tl hi he hm hW);rintro ex a' w' ⟨ρ',hx,g1,g2,g3,g4,g5⟩;have hx:ex=.normal:=hx;subst hx;show z.wpIn (FW ro) n P _ a' w';refine Code.wpIn_mono ?_ (QA z hz N hN.2 ro hro ρ' _ w' a' W0 n tl g1 g3 g4 (Nat.le_trans hW g2.size));intro ex2 a2 w2 hp;refine nV hi g2 (fun hn=>?_) hp;simp only[bC,Bool.and_eq_true] at hn;exact⟨hn.2,g5 hn.1⟩
theorem Ki{c d:AC}{x:AX}(tE:bM P H0 rd c e h x e' h')(hx:x.cA=false):bM P H0 rd (.seq c d) e h x e' h':=by
 refine cH fun code hs hc N hN ro hro ρ D w a W0 n tl hi he hm hW=>?_;obtain⟨y,z,rfl,hy,hz⟩:=fL hs hc;simp only[codeOk,Bool.and_eq_true] at hN;refine wpIn_seq ?_;refine Code.wpIn_mono ?_ (tE y hy N hN.1 ro hro ρ D w a W0 n tl hi he hm hW);intro ex a' w' hp;have SO:oh P H0 (bC (.seq c d)) a.defers tl W0 ρ D h w N x e' h' ex a' w':=qh (fun hn=>by simp only[bC,Bool.and_eq_true] at hn;exact hn.1) hp;have:=(vi hx hp).1;cases ex with
 |normal=>exact absurd rfl this
 |_=>exact SO
theorem Kb{r:bG}{c d:AC}{t:Bool}{x:AX}(ht:e.ev r=.bool t)(tE:bM P H0 rd (bif t then c else d) e h x e' h'):bM P H0 rd (.cond r c d) e h x e' h':=by
 refine cH fun code hs hc N hN ro hro ρ D w a W0 n tl hi he hm hW=>?_;obtain⟨q,y,z,rfl,hq,hy,hz⟩:=qB hs hc;simp only[codeOk,Bool.and_eq_true] at hN;have hr:=(aF he hq).1;rw[ht] at hr;refine wpIn_cond (t:=t) (by simpa[real] using hr) ?_;cases t with
 |true=>exact Code.wpIn_mono (fun ex a' w' hp=>qh (fun hn=>by simp only[bC,Bool.and_eq_true] at hn;exact hn.1) hp) (tE y hy N hN.1 ro hro ρ D w a W0 n tl hi he hm hW)
 |false=>exact Code.wpIn_mono (fun ex a' w' hp=>qh (fun hn=>by simp only[bC,Bool.and_eq_true] at hn;exact hn.2) hp) (tE z hz N hN.2 ro hro ρ D w a W0 n tl hi he hm hW)
theorem Dw{id:Nat}{c:AC}(tE:bM P H0 rd c e h (.exit id) e' h'):bM P H0 rd (.block id c) e h .normal e' h':=by
 refine cH fun code hs hc N hN ro hro ρ D w a W0 n tl hi he hm hW=>?_;obtain⟨y,rfl,hy⟩:=jk hs hc;refine wpIn_block ?_;refine Code.wpIn_mono ?_ (tE y hy N hN ro hro ρ D w a W0 n tl hi he hm hW);rintro ex a' w' ⟨ρ',hx,rest⟩;have hx:ex=.exit id:=hx;subst hx;simp only[Exit.inBlock,if_true];exact⟨ρ',rfl,rest⟩
theorem Dv{id:Nat}{c:AC}{x:AX}(tE:bM P H0 rd c e h x e' h')(hne:∀i,x=.exit i→i≠id):bM P H0 rd (.block id c) e h x e' h':=by
 refine cH fun code hs hc N hN ro hro ρ D w a W0 n tl hi he hm hW=>?_;obtain⟨y,rfl,hy⟩:=jk hs hc;refine wpIn_block ?_;refine Code.wpIn_mono ?_ (tE y hy N hN ro hro ρ D w a W0 n tl hi he hm hW);rintro ex a' w' ⟨ρ',hx,rest⟩;cases x with
 |exit i=>
  have hx:ex=.exit i:=hx;subst hx;simp only[Exit.inBlock,if_neg (hne i rfl)];exact⟨ρ',rfl,rest⟩
 |normal=>have hx:ex=.normal:=hx;subst hx;exact⟨ρ',rfl,rest⟩
 |ret=>have hx:ex=.ret:=hx;subst hx;exact⟨ρ',rfl,rest⟩
 |panic v=>obtain⟨hx,hd⟩:=hx;subst hx;exact⟨ρ',⟨rfl,hd⟩,rest⟩
theorem RG{c:AC}{e1:Env}{x:AX}(tE:bM P H0 rd c e h .normal e1 h1)(QA:pP P H0 rd c e1 h1 x e' h'):pP P H0 rd c e h x e' h':=by
 intro code hc N hN ro hro ρ D w a W0 n tl hi he hm hW;refine mM ?_;refine Code.wpIn_mono ?_ (tE code hc N hN ro hro ρ D w a W0 n tl hi he hm hW);rintro ex a' w' ⟨ρ',hx,g1,g2,g3,g4,g5⟩;have hx:ex=.normal:=hx;subst hx;show rO (FW ro) n P code _ a' w';have:=QA code hc N hN ro hro ρ' _ w' a' W0 n tl g1 g3 g4 (Nat.le_trans hW g2.size);intro b k cs zJ hb hr;obtain⟨e2,a2,w2,hp,ig⟩:=this b k cs zJ hb hr;exact⟨e2,a2,w2,nV hi g2 (fun hn=>⟨hn,g5 hn⟩) hp,ig⟩
theorem RH{c:AC}{x:AX}(tE:bM P H0 rd c e h x e' h')(hx:x.cA=false):pP P H0 rd c e h x e' h':=by
 intro code hc N hN ro hro ρ D w a W0 n tl hi he hm hW;refine mM ?_;refine Code.wpIn_mono ?_ (tE code hc N hN ro hro ρ D w a W0 n tl hi he hm hW);intro ex a' w' hp;have:=(vi hx hp).1;cases ex with
 |normal=>exact absurd rfl this
 |_=>exact hp
theorem B7{c:AC}{x:AX}(tE:pP P H0 rd c e h x e' h'):bM P H0 rd (.loop c) e h x e' h':=by
 refine cH fun code hs hc N hN ro hro ρ D w a W0 n tl hi he hm hW=>?_;obtain⟨y,rfl,hy⟩:=qD hs hc;exact pL (tE y hy N hN ro hro ρ D w a W0 n tl hi he hm hW)
end
end Ads
end Go.Proofs.YtnlcabhfkpafmaaGreat
