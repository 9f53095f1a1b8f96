/-
  What big steps mean in the model: code.
-/
import Derived.Test.YtnlcabhfkpafmaaGreatAdsSem
set_option linter.unusedSimpArgs false
set_option linter.unusedVariables false
namespace Go.Proofs.YtnlcabhfkpafmaaGreat
namespace Ads
section
variable {P:Program} {H0 W0:Nat} {ρ ρ':cF} {D D':Dom} {h h' h1:Heap} {w w':World} {N n:Nat} {env e e':Env} {a:Act} {ro:Option Nat} {rd:Bool}
variable {F:Fence} {Q:Exit→Act→World→Prop}
theorem lW{c:Code}(hq:∀l a w,¬Q (.goto l) a w)(h:c.wpIn F n P Q a w):(Code.scope c).wpIn F n P Q a w:=by
 intro b k cs hro hb hr;obtain⟨e,a₁,w₁,m6,iq⟩:=h b (.inScope c::k) cs hro hb hr;have s0:step P (lone (b.atR a (.code (.scope c)::k)) cs w)=.next (lone (b.atR a (.code c::.inScope c::k)) cs w):=
  step_lone_go (by simp[stepG,stepG.exec,Frame.atR])
 have s1:∀(a:Act) (w:World),step P (lone (b.atR a (.inScope c::k)) cs w)=.next (lone (b.atR a k) cs w):=fun a w=>
  step_lone_go (by simp[stepG,stepG.exec,Frame.atR])
 have f0:(lone (b.atR a (.code (.scope c)::k)) cs w).fenced P F:=fenced_calm hb hr rfl;have hs:StepsIn (Machine.fenced P F) P (lone (b.atR a (.code (.scope c)::k)) cs w) (lone (b.atR a (.code c::.inScope c::k)) cs w):=.one f0 s0;cases e with
 |normal=>exact⟨.normal,a₁,w₁,m6,hs.trans (StepsIn.trans iq (.one (fenced_calm (fr:=b.atR a₁ (.inScope c::k)) hb hr rfl) (s1 a₁ w₁)))⟩
 |exit id=>
  refine⟨.exit id,a₁,w₁,m6,fun k' hk=>hs.trans (iq.1 k' (by simp[exitTo,hk])),fun hr hk=>?_⟩;obtain⟨k₁,h1,h2⟩:=iq.2 hr (by simp[exitTo,hk]);exact⟨k₁,h1,hs.trans h2⟩
 |goto l=>exact absurd m6 (hq l a₁ w₁)
 |ret=>exact⟨_,a₁,w₁,m6,fun hr=>let⟨todo,h1⟩:=iq.1 hr;⟨todo,hs.trans h1⟩,fun hr=>let⟨k₁,h1⟩:=iq.2 hr;⟨k₁,hs.trans h1⟩⟩
 |panic ch=>obtain⟨todo,h1⟩:=iq;exact⟨_,a₁,w₁,m6,todo,hs.trans h1⟩
 |outgrown=>exact⟨_,a₁,w₁,m6,iq.imp id (Outgrown.of_steps hs.steps)⟩
theorem mO{c:Code}(h:c.wpIn F n P (Exit.then (rP F n P c Q) Q) a w):rP F n P c Q a w:=by
 intro b k cs hro hb hr;obtain⟨e,a₁,w₁,hq,iq⟩:=h b (.inLoop c::k) cs hro hb hr;cases e with
 |normal=>
  obtain⟨e₂,a₂,w₂,Uh,Nb⟩:=hq b k cs hro hb hr;have s1:step P (lone (b.atR a₁ (.inLoop c::k)) cs w₁)=.next (lone (b.atR a₁ (.code c::.inLoop c::k)) cs w₁):=
   step_lone_go (by simp[stepG,stepG.exec,Frame.atR])
  exact⟨e₂,a₂,w₂,Uh,.of_steps (StepsIn.trans iq (.one (fenced_calm (fr:=b.atR a₁ (.inLoop c::k)) hb hr rfl) s1)) Nb⟩
 |exit id=>exact⟨_,a₁,w₁,hq,.pass (x:=.inLoop c) rfl (fun _ _=>.inl (by simp)) iq⟩
 |goto l=>exact⟨_,a₁,w₁,hq,.pass (x:=.inLoop c) rfl (fun _ _=>.inl (by simp)) iq⟩
 |ret=>exact⟨_,a₁,w₁,hq,.pass (x:=.inLoop c) rfl (fun _ _=>.inl (by simp)) iq⟩
 |panic ch=>exact⟨_,a₁,w₁,hq,.pass (x:=.inLoop c) rfl (fun _ _=>.inl (by simp)) iq⟩
 |outgrown=>exact⟨_,a₁,w₁,hq,.pass (x:=.inLoop c) rfl (fun _ _=>.inl (by simp)) iq⟩
theorem pM{c:Code}(h:rP F n P c Q a w):(Code.loop c).wpIn F n P Q a w:=by
 intro b k cs hro hb hr;obtain⟨e,a₁,w₁,hq,iq⟩:=h b k cs hro hb hr;have s0:step P (lone (b.atR a (.code (.loop c)::k)) cs w)=.next (lone (b.atR a (.code c::.inLoop c::k)) cs w):=
  step_lone_go (by simp[stepG,stepG.exec,Frame.atR])
 exact⟨e,a₁,w₁,hq,.of_steps (.one (fenced_calm hb hr rfl) s0) iq⟩
def cW:Code→Bool
 |.scope _=>true
 |_=>false
theorem cH{c:AC}{x:AX}(Ii:∀(code:Code),cW code=false→aE P code=c→∀(N:Nat),codeOk N c=true→∀(ro:Option Nat),ro.isSome=rd→∀(ρ:cF) (D:Dom) (w:World) (a:Act) (W0 n:Nat) (tl:List Deferred),
  Inv P H0 ρ D h w→bJ ρ D N e a→jE tl W0 ρ D h w a.defers→W0≤w.heap.size→code.wpIn (FW ro) n P (oq P H0 (bD c) a.defers tl W0 ρ D h w N x e' h') a w):bN P H0 rd c e h x e' h':=by
 intro code;induction code with
 |scope c' ih=>
  intro hc N hN ro hro ρ D w a W0 n tl hi he hm hW;refine lW ?_ (ih (by simpa[aE] using hc) N hN ro hro ρ D w a W0 n tl hi he hm hW);intro l a w hh;obtain⟨ρ',hx,_⟩:=hh;cases x<;>simp[G5] at hx
 |_=>intro hc N hN ro hro ρ D w a W0 n tl hi he hm hW;exact Ii _ rfl hc N hN ro hro ρ D w a W0 n tl hi he hm hW
theorem Ds{os:Array Oper}{draw:Bool}{l:List bE}(h:gK P os draw=.ops l):draw=false∧os.toList.map (bG P os)=l:=by
 unfold gK at h;cases draw with
 |false=>simp at h;exact⟨rfl,h⟩
 |true=>simp only[Bool.not_true,Bool.false_eq_true,if_false] at h;split at h<;>simp at h
theorem gU{os:Array Oper}{draw:Bool}:(∃l,gK P os draw=.ops l)∨(∃l win,gK P os draw=.cn l win)∨gK P os draw=.bad:=by
 unfold gK;cases draw with
 |false=>exact .inl ⟨_,by simp;rfl⟩
 |true=>
  simp only[Bool.not_true,Bool.false_eq_true,if_false];split
  ·exact .inr (.inl ⟨_,_,rfl⟩)
  ·exact .inr (.inr rfl)
theorem qj{nr:Bool}{tl:List Deferred}{x:AX}{ex:Exit}(hx:G5 ρ (grow D h.next h.next) x ex)(hi:Inv P H0 ρ D h w)(he:bJ ρ D N e a)(hm:jE tl W0 ρ D h w a.defers):oq P H0 nr a.defers tl W0 ρ D h w N x e h ex a w:=by
 refine⟨ρ,hx,?_⟩;rw[bp];exact⟨hi,Ext.refl _ _ _ _,he,hm,fun _=>rfl⟩
theorem nX{nr UD:Bool}{ds Z0:List Deferred}{tl:List Deferred}{x:AX}{w1:World}{pO:cF}(hi:Inv P H0 ρ D h w)(x1:Ext ρ D h w pO h1 w1){ex:Exit}{a2:Act}{w2:World}(GO:nr=true→UD=true∧Z0=ds)
  (hp:oq P H0 UD Z0 tl W0 pO (grow D h.next h1.next) h1 w1 N x e' h' ex a2 w2):oq P H0 nr ds tl W0 ρ D h w N x e' h' ex a2 w2:=by
 obtain⟨iW,hx,g1,g2,g3,g4,g5⟩:=hp;have hn:=g2.next;rw[dG D x1.next hn] at hx g1 g3 g4;exact⟨iW,hx,g1,Ext.trans hi.lt x1 g2,g3,g4,fun h=>(g5 (GO h).1).trans (GO h).2⟩
theorem qi{nr UD:Bool}{ds tl:List Deferred}{x:AX}{ex:Exit}{a2:Act}{w2:World}(GO:nr=true→UD=true)(hp:oq P H0 UD ds tl W0 ρ D h w N x e' h' ex a2 w2):oq P H0 nr ds tl W0 ρ D h w N x e' h' ex a2 w2:=by
 obtain⟨iW,hx,g1,g2,g3,g4,g5⟩:=hp;exact⟨iW,hx,g1,g2,g3,g4,fun h=>g5 (GO h)⟩
theorem vj{nr:Bool}{ds tl:List Deferred}{x:AX}{ex:Exit}{a2:Act}{w2:World}(hx:x.cB=false)(hp:oq P H0 nr ds tl W0 ρ D h w N x e' h' ex a2 w2):ex≠.normal∧(∀l,ex≠.goto l)∧ex≠.outgrown:=by
 obtain⟨iW,hx',_⟩:=hp;cases x with
 |normal=>simp[AX.cB] at hx
 |exit id=>have h:ex=.exit id:=hx';subst h;exact⟨by simp,by simp,by simp⟩
 |ret=>have h:ex=.ret:=hx';subst h;exact⟨by simp,by simp,by simp⟩
 |panic v=>obtain⟨h,_⟩:=hx';subst h;exact⟨by simp,by simp,by simp⟩
theorem fL{code:Code}{c d:AC}(hs:cW code=false)(h:aE P code=.seq c d):∃x y,code=.seq x y∧aE P x=c∧aE P y=d:=by
 cases code<;>simp[aE,cW] at h hs
 case region id os draw=>
  rcases gU (P:=P) (os:=os) (draw:=draw) with⟨l,hl⟩|⟨l,wn,hl⟩|hl<;>rw[hl] at h<;>simp at h
 case seq x y=>exact⟨x,y,rfl,h.1,h.2⟩
 case cond c x y=>split at h<;>simp at h
 case rangeFunc f ps x y=>split at h<;>simp at h
theorem qC{code:Code}{r:bH}{c d:AC}(hs:cW code=false)(h:aE P code=.cond r c d):∃q x y,code=.cond q x y∧dg q=some r∧aE P x=c∧aE P y=d:=by
 cases code<;>simp[aE,cW] at h hs
 case region id os draw=>
  rcases gU (P:=P) (os:=os) (draw:=draw) with⟨l,hl⟩|⟨l,wn,hl⟩|hl<;>rw[hl] at h<;>simp at h
 case cond q x y=>
  split at h
  ·rename_i r' hr;simp only[AC.cond.injEq] at h;exact⟨q,x,y,rfl,by rw[hr,h.1],h.2.1,h.2.2⟩
  ·simp at h
 case rangeFunc f ps x y=>split at h<;>simp at h
theorem jq{code:Code}{id:Nat}{c:AC}(hs:cW code=false)(h:aE P code=.block id c):∃x,code=.block id x∧aE P x=c:=by
 cases code<;>simp[aE,cW] at h hs
 case region id os draw=>
  rcases gU (P:=P) (os:=os) (draw:=draw) with⟨l,hl⟩|⟨l,wn,hl⟩|hl<;>rw[hl] at h<;>simp at h
 case cond c x y=>split at h<;>simp at h
 case block i x=>exact⟨x,by rw[h.1],h.2⟩
 case rangeFunc f ps x y=>split at h<;>simp at h
theorem qE{code:Code}{c:AC}(hs:cW code=false)(h:aE P code=.loop c):∃x,code=.loop x∧aE P x=c:=by
 cases code<;>simp[aE,cW] at h hs
 case region id os draw=>
  rcases gU (P:=P) (os:=os) (draw:=draw) with⟨l,hl⟩|⟨l,wn,hl⟩|hl<;>rw[hl] at h<;>simp at h
 case cond c x y=>split at h<;>simp at h
 case loop x=>exact⟨x,rfl,h⟩
 case rangeFunc f ps x y=>split at h<;>simp at h
theorem xp{code:Code}{id:Nat}(hs:cW code=false)(h:aE P code=.exit id):code=.exit id:=by
 cases code<;>simp[aE,cW] at h hs
 case region id os draw=>
  rcases gU (P:=P) (os:=os) (draw:=draw) with⟨l,hl⟩|⟨l,wn,hl⟩|hl<;>rw[hl] at h<;>simp at h
 case cond c x y=>split at h<;>simp at h
 case exit i=>rw[h]
 case rangeFunc f ps x y=>split at h<;>simp at h
theorem zl{code:Code}(hs:cW code=false)(h:aE P code=.ret):code=.ret:=by
 cases code<;>simp[aE,cW] at h hs
 case region id os draw=>
  rcases gU (P:=P) (os:=os) (draw:=draw) with⟨l,hl⟩|⟨l,wn,hl⟩|hl<;>rw[hl] at h<;>simp at h
 case cond c x y=>split at h<;>simp at h
 case ret=>rfl
 case rangeFunc f ps x y=>split at h<;>simp at h
theorem dW{code:Code}{l:List bE}(hs:cW code=false)(h:aE P code=.ops l):∃id os,code=.region id os false∧os.toList.map (bG P os)=l:=by
 cases code<;>simp[aE,cW] at h hs
 case region id os draw=>
  obtain⟨rfl,h2⟩:=Ds h;exact⟨id,os,rfl,h2⟩
 case cond c x y=>split at h<;>simp at h
 case rangeFunc f ps x y=>split at h<;>simp at h
theorem xq{code:Code}(hs:cW code=false)(h:aE P code=.skip):code=.skip∨∃l,code=.label l:=by
 cases code<;>simp[aE,cW] at h hs
 case region id os draw=>
  rcases gU (P:=P) (os:=os) (draw:=draw) with⟨l,hl⟩|⟨l,wn,hl⟩|hl<;>rw[hl] at h<;>simp at h
 case skip=>exact .inl rfl
 case label l=>exact .inr ⟨l,rfl⟩
 case cond c x y=>split at h<;>simp at h
 case rangeFunc f ps x y=>split at h<;>simp at h
theorem oO{code:Code}{r:bH}{ps:List Nat}{c d:AC}(hs:cW code=false)(h:aE P code=.rangeFunc r ps c d):
  ∃g qs x y,code=.rangeFunc g qs x y∧dg g=some r∧qs.toList=ps∧aE P x=c∧aE P y=d:=by
 cases code<;>simp[aE,cW] at h hs
 case region id os draw=>
  rcases gU (P:=P) (os:=os) (draw:=draw) with⟨l,hl⟩|⟨l,wn,hl⟩|hl<;>rw[hl] at h<;>simp at h
 case cond c x y=>split at h<;>simp at h
 case rangeFunc g qs x y=>
  split at h
  ·rename_i r' hr;simp only[AC.rangeFunc.injEq] at h;exact⟨g,qs,x,y,rfl,by rw[hr,h.1],h.2.1,h.2.2.1,h.2.2.2⟩
  ·simp at h
theorem Ki:bN P H0 rd .skip e h .normal e h:=by
 refine cH fun code hs hc N hN ro hro ρ D w a W0 n tl hi he hm hW=>?_;rcases xq hs hc with rfl|⟨l,rfl⟩
 ·exact wpIn_skip (qj rfl hi he hm)
 ·exact wpIn_label (qj rfl hi he hm)
theorem Ke{id:Nat}:bN P H0 rd (.exit id) e h (.exit id) e h:=by
 refine cH fun code hs hc N hN ro hro ρ D w a W0 n tl hi he hm hW=>?_;rw[xp hs hc];exact wpIn_exit (qj rfl hi he hm)
theorem OL:bN P H0 rd .ret e h .ret e h:=by
 refine cH fun code hs hc N hN ro hro ρ D w a W0 n tl hi he hm hW=>?_;rw[zl hs hc];exact wpIn_ret (qj rfl hi he hm)
theorem OK{l:List bE}{tr:List aN}(kB:OT P H0 l e h tr e' h'):bN P H0 rd (.ops l) e h .normal e' h':=by
 refine cH fun code hs hc N hN ro hro ρ D w a W0 n tl hi he hm hW=>?_;obtain⟨id,os,rfl,hos⟩:=dW hs hc;refine wpIn_region_list ?_;refine nV kB hos hN hi he ?_;intro ρ' w' a' g1 g2 g3 g4;exact⟨ρ',rfl,g1,g2,g3,by rw[g4];exact hm.ext hi.lt g2,fun _=>g4⟩
theorem Kf{l l2:List bE}{i0:bE}{tr:List aN}{v:AV}{h2:Heap}(kB:OT P H0 l e h tr e' h')(hw0:cE i0 e'=true)(hop:i0.op≠.bad∧mF P H0 i0.op (i0.args.map e'.ev) h' v h2):bN P H0 rd (.ops (l++i0::l2)) e h (.panic v) e' h2:=by
 refine cH fun code hs hc N hN ro hro ρ D w a W0 n tl hi he hm hW=>?_;obtain⟨id,os,rfl,hos⟩:=dW hs hc;refine wpIn_region_list ?_;have SK:cV N (l++i0::l2)=true:=hN;rw[qe,Bool.and_eq_true] at SK;refine jU kB hw0 hop.1 hop.2 hos SK.1 hi he ?_;intro ρ' w' a' g1 g2 g3 g4 g5;exact⟨ρ',⟨rfl,g5⟩,g1,g2,g3,by rw[g4];exact hm.ext hi.lt g2,fun _=>g4⟩
theorem Kg{c d:AC}{e1:Env}{x:AX}(tF:bN P H0 rd c e h .normal e1 h1)(Qz:bN P H0 rd d e1 h1 x e' h'):bN P H0 rd (.seq c d) e h x e' h':=by
 refine cH fun code hs hc N hN ro hro ρ D w a W0 n tl hi he hm hW=>?_;obtain⟨y,z,rfl,hy,hz⟩:=fL hs hc;simp only[codeOk,Bool.and_eq_true] at hN;refine wpIn_seq ?_;refine Code.wpIn_mono ?_ (tF y hy N hN.1 ro hro ρ D w a W0 n tl hi he hm hW);rintro ex a' w' ⟨ρ',hx,g1,g2,g3,g4,g5⟩;have hx:ex=.normal:=hx;subst hx;show z.wpIn (FW ro) n P _ a' w';refine Code.wpIn_mono ?_ (Qz z hz N hN.2 ro hro ρ' _ w' a' W0 n tl g1 g3 g4 (Nat.le_trans hW g2.size));intro ex2 a2 w2 hp;refine nX hi g2 (fun hn=>?_) hp;simp only[bD,Bool.and_eq_true] at hn;exact⟨hn.2,g5 hn.1⟩
theorem Kh{c d:AC}{x:AX}(tF:bN P H0 rd c e h x e' h')(hx:x.cB=false):bN P H0 rd (.seq c d) e h x e' h':=by
 refine cH fun code hs hc N hN ro hro ρ D w a W0 n tl hi he hm hW=>?_;obtain⟨y,z,rfl,hy,hz⟩:=fL hs hc;simp only[codeOk,Bool.and_eq_true] at hN;refine wpIn_seq ?_;refine Code.wpIn_mono ?_ (tF y hy N hN.1 ro hro ρ D w a W0 n tl hi he hm hW);intro ex a' w' hp;have SP:oq P H0 (bD (.seq c d)) a.defers tl W0 ρ D h w N x e' h' ex a' w':=qi (fun hn=>by simp only[bD,Bool.and_eq_true] at hn;exact hn.1) hp;have:=(vj hx hp).1;cases ex with
 |normal=>exact absurd rfl this
 |_=>exact SP
theorem Ka{r:bH}{c d:AC}{t:Bool}{x:AX}(ht:e.ev r=.bool t)(tF:bN P H0 rd (bif t then c else d) e h x e' h'):bN P H0 rd (.cond r c d) e h x e' h':=by
 refine cH fun code hs hc N hN ro hro ρ D w a W0 n tl hi he hm hW=>?_;obtain⟨q,y,z,rfl,hq,hy,hz⟩:=qC hs hc;simp only[codeOk,Bool.and_eq_true] at hN;have hr:=(aG he hq).1;rw[ht] at hr;refine wpIn_cond (t:=t) (by simpa[real] using hr) ?_;cases t with
 |true=>exact Code.wpIn_mono (fun ex a' w' hp=>qi (fun hn=>by simp only[bD,Bool.and_eq_true] at hn;exact hn.1) hp) (tF y hy N hN.1 ro hro ρ D w a W0 n tl hi he hm hW)
 |false=>exact Code.wpIn_mono (fun ex a' w' hp=>qi (fun hn=>by simp only[bD,Bool.and_eq_true] at hn;exact hn.2) hp) (tF z hz N hN.2 ro hro ρ D w a W0 n tl hi he hm hW)
theorem Dv{id:Nat}{c:AC}(tF:bN P H0 rd c e h (.exit id) e' h'):bN P H0 rd (.block id c) e h .normal e' h':=by
 refine cH fun code hs hc N hN ro hro ρ D w a W0 n tl hi he hm hW=>?_;obtain⟨y,rfl,hy⟩:=jq hs hc;refine wpIn_block ?_;refine Code.wpIn_mono ?_ (tF y hy N hN ro hro ρ D w a W0 n tl hi he hm hW);rintro ex a' w' ⟨ρ',hx,rest⟩;have hx:ex=.exit id:=hx;subst hx;simp only[Exit.inBlock,if_true];exact⟨ρ',rfl,rest⟩
theorem Du{id:Nat}{c:AC}{x:AX}(tF:bN P H0 rd c e h x e' h')(hne:∀i,x=.exit i→i≠id):bN P H0 rd (.block id c) e h x e' h':=by
 refine cH fun code hs hc N hN ro hro ρ D w a W0 n tl hi he hm hW=>?_;obtain⟨y,rfl,hy⟩:=jq hs hc;refine wpIn_block ?_;refine Code.wpIn_mono ?_ (tF y hy N hN ro hro ρ D w a W0 n tl hi he hm hW);rintro ex a' w' ⟨ρ',hx,rest⟩;cases x with
 |exit i=>
  have hx:ex=.exit i:=hx;subst hx;simp only[Exit.inBlock,if_neg (hne i rfl)];exact⟨ρ',rfl,rest⟩
 |normal=>have hx:ex=.normal:=hx;subst hx;exact⟨ρ',rfl,rest⟩
 |ret=>have hx:ex=.ret:=hx;subst hx;exact⟨ρ',rfl,rest⟩
 |panic v=>obtain⟨hx,hd⟩:=hx;subst hx;exact⟨ρ',⟨rfl,hd⟩,rest⟩
theorem RF{c:AC}{e1:Env}{x:AX}(tF:bN P H0 rd c e h .normal e1 h1)(Qz:pQ P H0 rd c e1 h1 x e' h'):pQ P H0 rd c e h x e' h':=by
 intro code hc N hN ro hro ρ D w a W0 n tl hi he hm hW;refine mO ?_;refine Code.wpIn_mono ?_ (tF code hc N hN ro hro ρ D w a W0 n tl hi he hm hW);rintro ex a' w' ⟨ρ',hx,g1,g2,g3,g4,g5⟩;have hx:ex=.normal:=hx;subst hx;show rP (FW ro) n P code _ a' w';have:=Qz code hc N hN ro hro ρ' _ w' a' W0 n tl g1 g3 g4 (Nat.le_trans hW g2.size);intro b k cs zJ hb hr;obtain⟨e2,a2,w2,hp,iq⟩:=this b k cs zJ hb hr;exact⟨e2,a2,w2,nX hi g2 (fun hn=>⟨hn,g5 hn⟩) hp,iq⟩
theorem RG{c:AC}{x:AX}(tF:bN P H0 rd c e h x e' h')(hx:x.cB=false):pQ P H0 rd c e h x e' h':=by
 intro code hc N hN ro hro ρ D w a W0 n tl hi he hm hW;refine mO ?_;refine Code.wpIn_mono ?_ (tF code hc N hN ro hro ρ D w a W0 n tl hi he hm hW);intro ex a' w' hp;have:=(vj hx hp).1;cases ex with
 |normal=>exact absurd rfl this
 |_=>exact hp
theorem B7{c:AC}{x:AX}(tF:pQ P H0 rd c e h x e' h'):bN P H0 rd (.loop c) e h x e' h':=by
 refine cH fun code hs hc N hN ro hro ρ D w a W0 n tl hi he hm hW=>?_;obtain⟨y,rfl,hy⟩:=qE hs hc;exact pM (tF y hy N hN ro hro ρ D w a W0 n tl hi he hm hW)
end
end Ads
end Go.Proofs.YtnlcabhfkpafmaaGreat
