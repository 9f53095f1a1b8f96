/-
  What big steps mean in the model: code.
-/
import Derived.Test.YtepdklcpagielaaAdsSem
set_option linter.unusedSimpArgs false
set_option linter.unusedVariables false
namespace Go.Proofs.Ytepdklcpagielaa
namespace Ads
section
variable {P:Program} {H0 W0:Nat} {ρ ρ':de} {D D':Dom} {h h' h1:Heap} {w w':World} {N n:Nat} {env e e':Env} {a:Act} {ro:Option Nat} {rd:Bool}
variable {F:Fence} {Q:Exit→Act→World→Prop}
theorem nZ{c:Code}(hq:∀l a w,¬Q (.goto l) a w)(h:c.wpIn F n P Q a w):(Code.scope c).wpIn F n P Q a w:=by
 intro b k cs hro hb hr;obtain⟨e,a₁,w₁,pg,iG⟩:=h b (.inScope c::k) cs hro hb hr;have s0:step P (lone (b.atR a (.code (.scope c)::k)) cs w)=.next (lone (b.atR a (.code c::.inScope c::k)) cs w):=
  step_lone_go (by simp[stepG,stepG.exec,Frame.atR])
 have s1:∀(a:Act) (w:World),step P (lone (b.atR a (.inScope c::k)) cs w)=.next (lone (b.atR a k) cs w):=fun a w=>
  step_lone_go (by simp[stepG,stepG.exec,Frame.atR])
 have f0:(lone (b.atR a (.code (.scope c)::k)) cs w).fenced P F:=fenced_calm hb hr rfl;have hs:StepsIn (Machine.fenced P F) P (lone (b.atR a (.code (.scope c)::k)) cs w) (lone (b.atR a (.code c::.inScope c::k)) cs w):=.one f0 s0;cases e with
 |normal=>exact⟨.normal,a₁,w₁,pg,hs.trans (StepsIn.trans iG (.one (fenced_calm (fr:=b.atR a₁ (.inScope c::k)) hb hr rfl) (s1 a₁ w₁)))⟩
 |exit id=>
  refine⟨.exit id,a₁,w₁,pg,fun k' hk=>hs.trans (iG.1 k' (by simp[exitTo,hk])),fun hr hk=>?_⟩;obtain⟨k₁,h1,h2⟩:=iG.2 hr (by simp[exitTo,hk]);exact⟨k₁,h1,hs.trans h2⟩
 |goto l=>exact absurd pg (hq l a₁ w₁)
 |ret=>exact⟨_,a₁,w₁,pg,fun hr=>let⟨todo,h1⟩:=iG.1 hr;⟨todo,hs.trans h1⟩,fun hr=>let⟨k₁,h1⟩:=iG.2 hr;⟨k₁,hs.trans h1⟩⟩
 |panic ch=>obtain⟨todo,h1⟩:=iG;exact⟨_,a₁,w₁,pg,todo,hs.trans h1⟩
 |outgrown=>exact⟨_,a₁,w₁,pg,iG.imp id (Outgrown.of_steps hs.steps)⟩
theorem oT{c:Code}(h:c.wpIn F n P (Exit.then (uL F n P c Q) Q) a w):uL F n P c Q a w:=by
 intro b k cs hro hb hr;obtain⟨e,a₁,w₁,hq,iG⟩:=h b (.inLoop c::k) cs hro hb hr;cases e with
 |normal=>
  obtain⟨e₂,a₂,w₂,Wg,O8⟩:=hq b k cs hro hb hr;have s1:step P (lone (b.atR a₁ (.inLoop c::k)) cs w₁)=.next (lone (b.atR a₁ (.code c::.inLoop c::k)) cs w₁):=
   step_lone_go (by simp[stepG,stepG.exec,Frame.atR])
  exact⟨e₂,a₂,w₂,Wg,.of_steps (StepsIn.trans iG (.one (fenced_calm (fr:=b.atR a₁ (.inLoop c::k)) hb hr rfl) s1)) O8⟩
 |exit id=>exact⟨_,a₁,w₁,hq,.pass (x:=.inLoop c) rfl (fun _ _=>.inl (by simp)) iG⟩
 |goto l=>exact⟨_,a₁,w₁,hq,.pass (x:=.inLoop c) rfl (fun _ _=>.inl (by simp)) iG⟩
 |ret=>exact⟨_,a₁,w₁,hq,.pass (x:=.inLoop c) rfl (fun _ _=>.inl (by simp)) iG⟩
 |panic ch=>exact⟨_,a₁,w₁,hq,.pass (x:=.inLoop c) rfl (fun _ _=>.inl (by simp)) iG⟩
 |outgrown=>exact⟨_,a₁,w₁,hq,.pass (x:=.inLoop c) rfl (fun _ _=>.inl (by simp)) iG⟩
theorem sC{c:Code}(h:uL F n P c Q a w):(Code.loop c).wpIn F n P Q a w:=by
 intro b k cs hro hb hr;obtain⟨e,a₁,w₁,hq,iG⟩:=h b k cs hro hb hr;have s0:step P (lone (b.atR a (.code (.loop c)::k)) cs w)=.next (lone (b.atR a (.code c::.inLoop c::k)) cs w):=
  step_lone_go (by simp[stepG,stepG.exec,Frame.atR])
 exact⟨e,a₁,w₁,hq,.of_steps (.one (fenced_calm hb hr rfl) s0) iG⟩
def dW:Code→Bool
 |.scope _=>true
 |_=>false
theorem dy{c:AC}{x:AX}(Lh:∀(code:Code),dW code=false→aK P code=c→∀(N:Nat),codeOk N c=true→∀(ro:Option Nat),ro.isSome=rd→∀(ρ:de) (D:Dom) (w:World) (a:Act) (W0 n:Nat) (tl:List Deferred),
  Inv P H0 ρ D h w→cg ρ D N e a→kB tl W0 ρ D h w a.defers→W0≤w.heap.size→code.wpIn (FW ro) n P (om P H0 (bp c) a.defers tl W0 ρ D h w N x e' h') a w):bW P H0 rd c e h x e' h':=by
 intro code;induction code with
 |scope c' ih=>
  intro hc N hN ro hro ρ D w a W0 n tl hi he hm hW;refine nZ ?_ (ih (by simpa[aK] using hc) N hN ro hro ρ D w a W0 n tl hi he hm hW);intro l a w hh;obtain⟨ρ',hx,_⟩:=hh;cases x<;>simp[Kc] at hx
 |_=>intro hc N hN ro hro ρ D w a W0 n tl hi he hm hW;exact Lh _ rfl hc N hN ro hro ρ D w a W0 n tl hi he hm hW
theorem Gx{os:Array Oper}{draw:Bool}{l:List bK}(h:iO P os draw=.ops l):draw=false∧os.toList.map (bY P os)=l:=by
 unfold iO at h;cases draw with
 |false=>simp at h;exact⟨rfl,h⟩
 |true=>simp only[Bool.not_true,Bool.false_eq_true,if_false] at h;split at h<;>simp at h
theorem iV{os:Array Oper}{draw:Bool}:(∃l,iO P os draw=.ops l)∨(∃l win,iO P os draw=.bH l win)∨iO P os draw=.bad:=by
 unfold iO;cases draw with
 |false=>exact .inl ⟨_,by simp;rfl⟩
 |true=>
  simp only[Bool.not_true,Bool.false_eq_true,if_false];split
  ·exact .inr (.inl ⟨_,_,rfl⟩)
  ·exact .inr (.inr rfl)
theorem tg{nr:Bool}{tl:List Deferred}{x:AX}{ex:Exit}(hx:Kc ρ (grow D h.next h.next) x ex)(hi:Inv P H0 ρ D h w)(he:cg ρ D N e a)(hm:kB tl W0 ρ D h w a.defers):om P H0 nr a.defers tl W0 ρ D h w N x e h ex a w:=by
 refine⟨ρ,hx,?_⟩;rw[bF];exact⟨hi,Ext.refl _ _ _ _,he,hm,fun _=>rfl⟩
theorem qq{nr WW:Bool}{ds ds2:List Deferred}{tl:List Deferred}{x:AX}{w1:World}{sF:de}(hi:Inv P H0 ρ D h w)(x1:Ext ρ D h w sF h1 w1){ex:Exit}{a2:Act}{w2:World}(Hz:nr=true→WW=true∧ds2=ds)
  (hp:om P H0 WW ds2 tl W0 sF (grow D h.next h1.next) h1 w1 N x e' h' ex a2 w2):om P H0 nr ds tl W0 ρ D h w N x e' h' ex a2 w2:=by
 obtain⟨j4,hx,g1,g2,g3,g4,g5⟩:=hp;have hn:=g2.next;rw[eD D x1.next hn] at hx g1 g3 g4;exact⟨j4,hx,g1,Ext.trans hi.lt x1 g2,g3,g4,fun h=>(g5 (Hz h).1).trans (Hz h).2⟩
theorem tf{nr WW:Bool}{ds tl:List Deferred}{x:AX}{ex:Exit}{a2:Act}{w2:World}(Hz:nr=true→WW=true)(hp:om P H0 WW ds tl W0 ρ D h w N x e' h' ex a2 w2):om P H0 nr ds tl W0 ρ D h w N x e' h' ex a2 w2:=by
 obtain⟨j4,hx,g1,g2,g3,g4,g5⟩:=hp;exact⟨j4,hx,g1,g2,g3,g4,fun h=>g5 (Hz h)⟩
theorem x9{nr:Bool}{ds tl:List Deferred}{x:AX}{ex:Exit}{a2:Act}{w2:World}(hx:x.bZ=false)(hp:om P H0 nr ds tl W0 ρ D h w N x e' h' ex a2 w2):ex≠.normal∧(∀l,ex≠.goto l)∧ex≠.outgrown:=by
 obtain⟨j4,hx',_⟩:=hp;cases x with
 |normal=>simp[AX.bZ] at hx
 |exit id=>have h:ex=.exit id:=hx';subst h;exact⟨by simp,by simp,by simp⟩
 |ret=>have h:ex=.ret:=hx';subst h;exact⟨by simp,by simp,by simp⟩
 |panic v=>obtain⟨h,_⟩:=hx';subst h;exact⟨by simp,by simp,by simp⟩
theorem gG{code:Code}{c d:AC}(hs:dW code=false)(h:aK P code=.seq c d):∃x y,code=.seq x y∧aK P x=c∧aK P y=d:=by
 cases code<;>simp[aK,dW] at h hs
 case region id os draw=>
  rcases iV (P:=P) (os:=os) (draw:=draw) with⟨l,hl⟩|⟨l,wn,hl⟩|hl<;>rw[hl] at h<;>simp at h
 case seq x y=>exact⟨x,y,rfl,h.1,h.2⟩
 case cond c x y=>split at h<;>simp at h
 case rangeFunc f ps x y=>split at h<;>simp at h
theorem tO{code:Code}{r:bV}{c d:AC}(hs:dW code=false)(h:aK P code=.cond r c d):∃q x y,code=.cond q x y∧ec q=some r∧aK P x=c∧aK P y=d:=by
 cases code<;>simp[aK,dW] at h hs
 case region id os draw=>
  rcases iV (P:=P) (os:=os) (draw:=draw) with⟨l,hl⟩|⟨l,wn,hl⟩|hl<;>rw[hl] at h<;>simp at h
 case cond q x y=>
  split at h
  ·rename_i r' hr;simp only[AC.cond.injEq] at h;exact⟨q,x,y,rfl,by rw[hr,h.1],h.2.1,h.2.2⟩
  ·simp at h
 case rangeFunc f ps x y=>split at h<;>simp at h
theorem kD{code:Code}{id:Nat}{c:AC}(hs:dW code=false)(h:aK P code=.block id c):∃x,code=.block id x∧aK P x=c:=by
 cases code<;>simp[aK,dW] at h hs
 case region id os draw=>
  rcases iV (P:=P) (os:=os) (draw:=draw) with⟨l,hl⟩|⟨l,wn,hl⟩|hl<;>rw[hl] at h<;>simp at h
 case cond c x y=>split at h<;>simp at h
 case block i x=>exact⟨x,by rw[h.1],h.2⟩
 case rangeFunc f ps x y=>split at h<;>simp at h
theorem tQ{code:Code}{c:AC}(hs:dW code=false)(h:aK P code=.loop c):∃x,code=.loop x∧aK P x=c:=by
 cases code<;>simp[aK,dW] at h hs
 case region id os draw=>
  rcases iV (P:=P) (os:=os) (draw:=draw) with⟨l,hl⟩|⟨l,wn,hl⟩|hl<;>rw[hl] at h<;>simp at h
 case cond c x y=>split at h<;>simp at h
 case loop x=>exact⟨x,rfl,h⟩
 case rangeFunc f ps x y=>split at h<;>simp at h
theorem Ar{code:Code}{id:Nat}(hs:dW code=false)(h:aK P code=.exit id):code=.exit id:=by
 cases code<;>simp[aK,dW] at h hs
 case region id os draw=>
  rcases iV (P:=P) (os:=os) (draw:=draw) with⟨l,hl⟩|⟨l,wn,hl⟩|hl<;>rw[hl] at h<;>simp at h
 case cond c x y=>split at h<;>simp at h
 case exit i=>rw[h]
 case rangeFunc f ps x y=>split at h<;>simp at h
theorem Cm{code:Code}(hs:dW code=false)(h:aK P code=.ret):code=.ret:=by
 cases code<;>simp[aK,dW] at h hs
 case region id os draw=>
  rcases iV (P:=P) (os:=os) (draw:=draw) with⟨l,hl⟩|⟨l,wn,hl⟩|hl<;>rw[hl] at h<;>simp at h
 case cond c x y=>split at h<;>simp at h
 case ret=>rfl
 case rangeFunc f ps x y=>split at h<;>simp at h
theorem eP{code:Code}{l:List bK}(hs:dW code=false)(h:aK P code=.ops l):∃id os,code=.region id os false∧os.toList.map (bY P os)=l:=by
 cases code<;>simp[aK,dW] at h hs
 case region id os draw=>
  obtain⟨rfl,h2⟩:=Gx h;exact⟨id,os,rfl,h2⟩
 case cond c x y=>split at h<;>simp at h
 case rangeFunc f ps x y=>split at h<;>simp at h
theorem As{code:Code}(hs:dW code=false)(h:aK P code=.skip):code=.skip∨∃l,code=.label l:=by
 cases code<;>simp[aK,dW] at h hs
 case region id os draw=>
  rcases iV (P:=P) (os:=os) (draw:=draw) with⟨l,hl⟩|⟨l,wn,hl⟩|hl<;>rw[hl] at h<;>simp at h
 case skip=>exact .inl rfl
 case label l=>exact .inr ⟨l,rfl⟩
 case cond c x y=>split at h<;>simp at h
 case rangeFunc f ps x y=>split at h<;>simp at h
theorem q9{code:Code}{r:bV}{ps:List Nat}{c d:AC}(hs:dW code=false)(h:aK P code=.rangeFunc r ps c d):
  ∃g qs x y,code=.rangeFunc g qs x y∧ec g=some r∧qs.toList=ps∧aK P x=c∧aK P y=d:=by
 cases code<;>simp[aK,dW] at h hs
 case region id os draw=>
  rcases iV (P:=P) (os:=os) (draw:=draw) with⟨l,hl⟩|⟨l,wn,hl⟩|hl<;>rw[hl] at h<;>simp at h
 case cond c x y=>split at h<;>simp at h
 case rangeFunc g qs x y=>
  split at h
  ·rename_i r' hr;simp only[AC.rangeFunc.injEq] at h;exact⟨g,qs,x,y,rfl,by rw[hr,h.1],h.2.1,h.2.2.1,h.2.2.2⟩
  ·simp at h
theorem MQ:bW P H0 rd .skip e h .normal e h:=by
 refine dy fun code hs hc N hN ro hro ρ D w a W0 n tl hi he hm hW=>?_;rcases As hs hc with rfl|⟨l,rfl⟩
 ·exact wpIn_skip (tg rfl hi he hm)
 ·exact wpIn_label (tg rfl hi he hm)
theorem MM{id:Nat}:bW P H0 rd (.exit id) e h (.exit id) e h:=by
 refine dy fun code hs hc N hN ro hro ρ D w a W0 n tl hi he hm hW=>?_;rw[Ar hs hc];exact wpIn_exit (tg rfl hi he hm)
theorem Qk:bW P H0 rd .ret e h .ret e h:=by
 refine dy fun code hs hc N hN ro hro ρ D w a W0 n tl hi he hm hW=>?_;rw[Cm hs hc];exact wpIn_ret (tg rfl hi he hm)
theorem Qj{l:List bK}{tr:List aQ}(mD:OT P H0 l e h tr e' h'):bW P H0 rd (.ops l) e h .normal e' h':=by
 refine dy fun code hs hc N hN ro hro ρ D w a W0 n tl hi he hm hW=>?_;obtain⟨id,os,rfl,hos⟩:=eP hs hc;refine wpIn_region_list ?_;refine qp mD hos hN hi he ?_;intro ρ' w' a' g1 g2 g3 g4;exact⟨ρ',rfl,g1,g2,g3,by rw[g4];exact hm.ext hi.lt g2,fun _=>g4⟩
theorem MN{l l2:List bK}{i0:bK}{tr:List aQ}{v:AV}{h2:Heap}(mD:OT P H0 l e h tr e' h')(hw0:cz i0 e'=true)(hop:i0.op≠.bad∧oJ P H0 i0.op (i0.args.map e'.ev) h' v h2):bW P H0 rd (.ops (l++i0::l2)) e h (.panic v) e' h2:=by
 refine dy fun code hs hc N hN ro hro ρ D w a W0 n tl hi he hm hW=>?_;obtain⟨id,os,rfl,hos⟩:=eP hs hc;refine wpIn_region_list ?_;have Uq:dQ N (l++i0::l2)=true:=hN;rw[s9,Bool.and_eq_true] at Uq;refine lS mD hw0 hop.1 hop.2 hos Uq.1 hi he ?_;intro ρ' w' a' g1 g2 g3 g4 g5;exact⟨ρ',⟨rfl,g5⟩,g1,g2,g3,by rw[g4];exact hm.ext hi.lt g2,fun _=>g4⟩
theorem MO{c d:AC}{e1:Env}{x:AX}(wm:bW P H0 rd c e h .normal e1 h1)(Se:bW P H0 rd d e1 h1 x e' h'):bW P H0 rd (.seq c d) e h x e' h':=by
 refine dy fun code hs hc N hN ro hro ρ D w a W0 n tl hi he hm hW=>?_;obtain⟨y,z,rfl,hy,hz⟩:=gG hs hc;simp only[codeOk,Bool.and_eq_true] at hN;refine wpIn_seq ?_;refine Code.wpIn_mono ?_ (wm y hy N hN.1 ro hro ρ D w a W0 n tl hi he hm hW);rintro ex a' w' ⟨ρ',hx,g1,g2,g3,g4,g5⟩;have hx:ex=.normal:=hx;subst hx;show z.wpIn (FW ro) n P _ a' w';refine Code.wpIn_mono ?_ (Se z hz N hN.2 ro hro ρ' _ w' a' W0 n tl g1 g3 g4 (Nat.le_trans hW g2.size));intro ex2 a2 w2 hp;refine qq hi g2 (fun hn=>?_) hp;simp only[bp,Bool.and_eq_true] at hn;exact⟨hn.2,g5 hn.1⟩
theorem MP{c d:AC}{x:AX}(wm:bW P H0 rd c e h x e' h')(hx:x.bZ=false):bW P H0 rd (.seq c d) e h x e' h':=by
 refine dy fun code hs hc N hN ro hro ρ D w a W0 n tl hi he hm hW=>?_;obtain⟨y,z,rfl,hy,hz⟩:=gG hs hc;simp only[codeOk,Bool.and_eq_true] at hN;refine wpIn_seq ?_;refine Code.wpIn_mono ?_ (wm y hy N hN.1 ro hro ρ D w a W0 n tl hi he hm hW);intro ex a' w' hp;have We:om P H0 (bp (.seq c d)) a.defers tl W0 ρ D h w N x e' h' ex a' w':=tf (fun hn=>by simp only[bp,Bool.and_eq_true] at hn;exact hn.1) hp;have:=(x9 hx hp).1;cases ex with
 |normal=>exact absurd rfl this
 |_=>exact We
theorem MK{r:bV}{c d:AC}{t:Bool}{x:AX}(ht:e.ev r=.bool t)(wm:bW P H0 rd (bif t then c else d) e h x e' h'):bW P H0 rd (.cond r c d) e h x e' h':=by
 refine dy fun code hs hc N hN ro hro ρ D w a W0 n tl hi he hm hW=>?_;obtain⟨q,y,z,rfl,hq,hy,hz⟩:=tO hs hc;simp only[codeOk,Bool.and_eq_true] at hN;have hr:=(aM he hq).1;rw[ht] at hr;refine wpIn_cond (t:=t) (by simpa[real] using hr) ?_;cases t with
 |true=>exact Code.wpIn_mono (fun ex a' w' hp=>tf (fun hn=>by simp only[bp,Bool.and_eq_true] at hn;exact hn.1) hp) (wm y hy N hN.1 ro hro ρ D w a W0 n tl hi he hm hW)
 |false=>exact Code.wpIn_mono (fun ex a' w' hp=>tf (fun hn=>by simp only[bp,Bool.and_eq_true] at hn;exact hn.2) hp) (wm z hz N hN.2 ro hro ρ D w a W0 n tl hi he hm hW)
theorem GA{id:Nat}{c:AC}(wm:bW P H0 rd c e h (.exit id) e' h'):bW P H0 rd (.block id c) e h .normal e' h':=by
 refine dy fun code hs hc N hN ro hro ρ D w a W0 n tl hi he hm hW=>?_;obtain⟨y,rfl,hy⟩:=kD hs hc;refine wpIn_block ?_;refine Code.wpIn_mono ?_ (wm y hy N hN ro hro ρ D w a W0 n tl hi he hm hW);rintro ex a' w' ⟨ρ',hx,rest⟩;have hx:ex=.exit id:=hx;subst hx;simp only[Exit.inBlock,if_true];exact⟨ρ',rfl,rest⟩
theorem Gz{id:Nat}{c:AC}{x:AX}(wm:bW P H0 rd c e h x e' h')(hne:∀i,x=.exit i→i≠id):bW P H0 rd (.block id c) e h x e' h':=by
 refine dy fun code hs hc N hN ro hro ρ D w a W0 n tl hi he hm hW=>?_;obtain⟨y,rfl,hy⟩:=kD hs hc;refine wpIn_block ?_;refine Code.wpIn_mono ?_ (wm y hy N hN ro hro ρ D w a W0 n tl hi he hm hW);rintro ex a' w' ⟨ρ',hx,rest⟩;cases x with
 |exit i=>
  have hx:ex=.exit i:=hx;subst hx;simp only[Exit.inBlock,if_neg (hne i rfl)];exact⟨ρ',rfl,rest⟩
 |normal=>have hx:ex=.normal:=hx;subst hx;exact⟨ρ',rfl,rest⟩
 |ret=>have hx:ex=.ret:=hx;subst hx;exact⟨ρ',rfl,rest⟩
 |panic v=>obtain⟨hx,hd⟩:=hx;subst hx;exact⟨ρ',⟨rfl,hd⟩,rest⟩
theorem Tf{c:AC}{e1:Env}{x:AX}(wm:bW P H0 rd c e h .normal e1 h1)(Se:oh P H0 rd c e1 h1 x e' h'):oh P H0 rd c e h x e' h':=by
 intro code hc N hN ro hro ρ D w a W0 n tl hi he hm hW;refine oT ?_;refine Code.wpIn_mono ?_ (wm code hc N hN ro hro ρ D w a W0 n tl hi he hm hW);rintro ex a' w' ⟨ρ',hx,g1,g2,g3,g4,g5⟩;have hx:ex=.normal:=hx;subst hx;show uL (FW ro) n P code _ a' w';have:=Se code hc N hN ro hro ρ' _ w' a' W0 n tl g1 g3 g4 (Nat.le_trans hW g2.size);intro b k cs yZ hb hr;obtain⟨e2,a2,w2,hp,iG⟩:=this b k cs yZ hb hr;exact⟨e2,a2,w2,qq hi g2 (fun hn=>⟨hn,g5 hn⟩) hp,iG⟩
theorem Tg{c:AC}{x:AX}(wm:bW P H0 rd c e h x e' h')(hx:x.bZ=false):oh P H0 rd c e h x e' h':=by
 intro code hc N hN ro hro ρ D w a W0 n tl hi he hm hW;refine oT ?_;refine Code.wpIn_mono ?_ (wm code hc N hN ro hro ρ D w a W0 n tl hi he hm hW);intro ex a' w' hp;have:=(x9 hx hp).1;cases ex with
 |normal=>exact absurd rfl this
 |_=>exact hp
theorem EM{c:AC}{x:AX}(wm:oh P H0 rd c e h x e' h'):bW P H0 rd (.loop c) e h x e' h':=by
 refine dy fun code hs hc N hN ro hro ρ D w a W0 n tl hi he hm hW=>?_;obtain⟨y,rfl,hy⟩:=tQ hs hc;exact sC (wm y hy N hN ro hro ρ D w a W0 n tl hi he hm hW)
end
end Ads
end Go.Proofs.Ytepdklcpagielaa
