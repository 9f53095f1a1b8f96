/-
  What big steps mean in the model: code.
-/
import Derived.Test.YtnlcabhfkpafmaaGreatAdsSem
set_option linter.unusedSimpArgs false
set_option linter.unusedVariables false
namespace Go.Proofs.YtnlcabhfkpafmaaGreat
namespace Ads
section
variable {P:Program} {H0 W0:Nat} {ρ ρ':cI} {D D':Dom} {h h' h1:Heap} {w w':World} {N n:Nat} {env e e':Env} {a:Act} {ro:Option Nat} {rd:Bool}
variable {F:Fence} {Q:Exit→Act→World→Prop}
theorem mD{c:Code}(hq:∀l a w,¬Q (.goto l) a w)(h:c.wpIn F n P Q a w):(Code.scope c).wpIn F n P Q a w:=by
 intro b k cs hro hb hr;obtain⟨e,a₁,w₁,nw,gK⟩:=h b (.inScope c::k) cs hro hb hr;have s0:step P (lone (b.atR a (.code (.scope c)::k)) cs w)=.next (lone (b.atR a (.code c::.inScope c::k)) cs w):=
  step_lone_go (by simp[stepG,stepG.exec,Frame.atR])
 have s1:∀(a:Act) (w:World),step P (lone (b.atR a (.inScope c::k)) cs w)=.next (lone (b.atR a k) cs w):=fun a w=>
  step_lone_go (by simp[stepG,stepG.exec,Frame.atR])
 have f0:(lone (b.atR a (.code (.scope c)::k)) cs w).fenced P F:=fenced_calm hb hr rfl;have hs:StepsIn (Machine.fenced P F) P (lone (b.atR a (.code (.scope c)::k)) cs w) (lone (b.atR a (.code c::.inScope c::k)) cs w):=.one f0 s0;cases e with
 |normal=>exact⟨.normal,a₁,w₁,nw,hs.trans (StepsIn.trans gK (.one (fenced_calm (fr:=b.atR a₁ (.inScope c::k)) hb hr rfl) (s1 a₁ w₁)))⟩
 |exit id=>
  refine⟨.exit id,a₁,w₁,nw,fun k' hk=>hs.trans (gK.1 k' (by simp[exitTo,hk])),fun hr hk=>?_⟩;obtain⟨k₁,h1,h2⟩:=gK.2 hr (by simp[exitTo,hk]);exact⟨k₁,h1,hs.trans h2⟩
 |goto l=>exact absurd nw (hq l a₁ w₁)
 |ret=>exact⟨_,a₁,w₁,nw,fun hr=>let⟨todo,h1⟩:=gK.1 hr;⟨todo,hs.trans h1⟩,fun hr=>let⟨k₁,h1⟩:=gK.2 hr;⟨k₁,hs.trans h1⟩⟩
 |panic ch=>obtain⟨todo,h1⟩:=gK;exact⟨_,a₁,w₁,nw,todo,hs.trans h1⟩
 |outgrown=>exact⟨_,a₁,w₁,nw,gK.imp id (Outgrown.of_steps hs.steps)⟩
theorem m8{c:Code}(h:c.wpIn F n P (Exit.then (sq F n P c Q) Q) a w):sq F n P c Q a w:=by
 intro b k cs hro hb hr;obtain⟨e,a₁,w₁,hq,gK⟩:=h b (.inLoop c::k) cs hro hb hr;cases e with
 |normal=>
  obtain⟨e₂,a₂,w₂,U1,Nz⟩:=hq b k cs hro hb hr;have s1:step P (lone (b.atR a₁ (.inLoop c::k)) cs w₁)=.next (lone (b.atR a₁ (.code c::.inLoop c::k)) cs w₁):=
   step_lone_go (by simp[stepG,stepG.exec,Frame.atR])
  exact⟨e₂,a₂,w₂,U1,.of_steps (StepsIn.trans gK (.one (fenced_calm (fr:=b.atR a₁ (.inLoop c::k)) hb hr rfl) s1)) Nz⟩
 |exit id=>exact⟨_,a₁,w₁,hq,.pass (x:=.inLoop c) rfl (fun _ _=>.inl (by simp)) gK⟩
 |goto l=>exact⟨_,a₁,w₁,hq,.pass (x:=.inLoop c) rfl (fun _ _=>.inl (by simp)) gK⟩
 |ret=>exact⟨_,a₁,w₁,hq,.pass (x:=.inLoop c) rfl (fun _ _=>.inl (by simp)) gK⟩
 |panic ch=>exact⟨_,a₁,w₁,hq,.pass (x:=.inLoop c) rfl (fun _ _=>.inl (by simp)) gK⟩
 |outgrown=>exact⟨_,a₁,w₁,hq,.pass (x:=.inLoop c) rfl (fun _ _=>.inl (by simp)) gK⟩
theorem qe{c:Code}(h:sq F n P c Q a w):(Code.loop c).wpIn F n P Q a w:=by
 intro b k cs hro hb hr;obtain⟨e,a₁,w₁,hq,gK⟩:=h b k cs hro hb hr;have s0:step P (lone (b.atR a (.code (.loop c)::k)) cs w)=.next (lone (b.atR a (.code c::.inLoop c::k)) cs w):=
  step_lone_go (by simp[stepG,stepG.exec,Frame.atR])
 exact⟨e,a₁,w₁,hq,.of_steps (.one (fenced_calm hb hr rfl) s0) gK⟩
def dj:Code→Bool
 |.scope _=>true
 |_=>false
theorem cM{c:AC}{x:AX}(Jj:∀(code:Code),dj code=false→aB P code=c→∀(N:Nat),codeOk N c=true→∀(ro:Option Nat),ro.isSome=rd→∀(ρ:cI) (D:Dom) (w:World) (a:Act) (W0 n:Nat) (tl:List Deferred),
  Inv P H0 ρ D h w→bI ρ D N e a→jC tl W0 ρ D h w a.defers→W0≤w.heap.size→code.wpIn (FW ro) n P (mK P H0 (aX c) a.defers tl W0 ρ D h w N x e' h') a w):bD P H0 rd c e h x e' h':=by
 intro code;induction code with
 |scope c' ih=>
  intro hc N hN ro hro ρ D w a W0 n tl hi he hm hW;refine mD ?_ (ih (by simpa[aB] using hc) N hN ro hro ρ D w a W0 n tl hi he hm hW);intro l a w hh;obtain⟨ρ',hx,_⟩:=hh;cases x<;>simp[HY] at hx
 |_=>intro hc N hN ro hro ρ D w a W0 n tl hi he hm hW;exact Jj _ rfl hc N hN ro hro ρ D w a W0 n tl hi he hm hW
theorem DO{os:Array Oper}{draw:Bool}{l:List bu}(h:gT P os draw=.ops l):draw=false∧os.toList.map (bF P os)=l:=by
 unfold gT at h;cases draw with
 |false=>simp at h;exact⟨rfl,h⟩
 |true=>simp only[Bool.not_true,Bool.false_eq_true,if_false] at h;split at h<;>simp at h
theorem gX{os:Array Oper}{draw:Bool}:(∃l,gT P os draw=.ops l)∨(∃l win,gT P os draw=.cB l win)∨gT P os draw=.bad:=by
 unfold gT;cases draw with
 |false=>exact .inl ⟨_,by simp;rfl⟩
 |true=>
  simp only[Bool.not_true,Bool.false_eq_true,if_false];split
  ·exact .inr (.inl ⟨_,_,rfl⟩)
  ·exact .inr (.inr rfl)
theorem qH{nr:Bool}{tl:List Deferred}{x:AX}{ex:Exit}(hx:HY ρ (grow D h.next h.next) x ex)(hi:Inv P H0 ρ D h w)(he:bI ρ D N e a)(hm:jC tl W0 ρ D h w a.defers):mK P H0 nr a.defers tl W0 ρ D h w N x e h ex a w:=by
 refine⟨ρ,hx,?_⟩;rw[bn];exact⟨hi,Ext.refl _ _ _ _,he,hm,fun _=>rfl⟩
theorem oz{nr Vz:Bool}{ds ds2:List Deferred}{tl:List Deferred}{x:AX}{w1:World}{qi:cI}(hi:Inv P H0 ρ D h w)(x1:Ext ρ D h w qi h1 w1){ex:Exit}{a2:Act}{w2:World}(HH:nr=true→Vz=true∧ds2=ds)
  (hp:mK P H0 Vz ds2 tl W0 qi (grow D h.next h1.next) h1 w1 N x e' h' ex a2 w2):mK P H0 nr ds tl W0 ρ D h w N x e' h' ex a2 w2:=by
 obtain⟨jd,hx,g1,g2,g3,g4,g5⟩:=hp;have hn:=g2.next;rw[dN D x1.next hn] at hx g1 g3 g4;exact⟨jd,hx,g1,Ext.trans hi.lt x1 g2,g3,g4,fun h=>(g5 (HH h).1).trans (HH h).2⟩
theorem qG{nr Vz:Bool}{ds tl:List Deferred}{x:AX}{ex:Exit}{a2:Act}{w2:World}(HH:nr=true→Vz=true)(hp:mK P H0 Vz ds tl W0 ρ D h w N x e' h' ex a2 w2):mK P H0 nr ds tl W0 ρ D h w N x e' h' ex a2 w2:=by
 obtain⟨jd,hx,g1,g2,g3,g4,g5⟩:=hp;exact⟨jd,hx,g1,g2,g3,g4,fun h=>g5 (HH h)⟩
theorem vq{nr:Bool}{ds tl:List Deferred}{x:AX}{ex:Exit}{a2:Act}{w2:World}(hx:x.bG=false)(hp:mK P H0 nr ds tl W0 ρ D h w N x e' h' ex a2 w2):ex≠.normal∧(∀l,ex≠.goto l)∧ex≠.outgrown:=by
 obtain⟨jd,hx',_⟩:=hp;cases x with
 |normal=>simp[AX.bG] at hx
 |exit id=>have h:ex=.exit id:=hx';subst h;exact⟨by simp,by simp,by simp⟩
 |ret=>have h:ex=.ret:=hx';subst h;exact⟨by simp,by simp,by simp⟩
 |panic v=>obtain⟨h,_⟩:=hx';subst h;exact⟨by simp,by simp,by simp⟩
theorem fN{code:Code}{c d:AC}(hs:dj code=false)(h:aB P code=.seq c d):∃x y,code=.seq x y∧aB P x=c∧aB P y=d:=by
 cases code<;>simp[aB,dj] at h hs
 case region id os draw=>
  rcases gX (P:=P) (os:=os) (draw:=draw) with⟨l,hl⟩|⟨l,wn,hl⟩|hl<;>rw[hl] at h<;>simp at h
 case seq x y=>exact⟨x,y,rfl,h.1,h.2⟩
 case cond c x y=>split at h<;>simp at h
 case rangeFunc f ps x y=>split at h<;>simp at h
theorem qV{code:Code}{r:bE}{c d:AC}(hs:dj code=false)(h:aB P code=.cond r c d):∃q x y,code=.cond q x y∧dD q=some r∧aB P x=c∧aB P y=d:=by
 cases code<;>simp[aB,dj] at h hs
 case region id os draw=>
  rcases gX (P:=P) (os:=os) (draw:=draw) with⟨l,hl⟩|⟨l,wn,hl⟩|hl<;>rw[hl] at h<;>simp at h
 case cond q x y=>
  split at h
  ·rename_i r' hr;simp only[AC.cond.injEq] at h;exact⟨q,x,y,rfl,by rw[hr,h.1],h.2.1,h.2.2⟩
  ·simp at h
 case rangeFunc f ps x y=>split at h<;>simp at h
theorem jD{code:Code}{id:Nat}{c:AC}(hs:dj code=false)(h:aB P code=.block id c):∃x,code=.block id x∧aB P x=c:=by
 cases code<;>simp[aB,dj] at h hs
 case region id os draw=>
  rcases gX (P:=P) (os:=os) (draw:=draw) with⟨l,hl⟩|⟨l,wn,hl⟩|hl<;>rw[hl] at h<;>simp at h
 case cond c x y=>split at h<;>simp at h
 case block i x=>exact⟨x,by rw[h.1],h.2⟩
 case rangeFunc f ps x y=>split at h<;>simp at h
theorem qX{code:Code}{c:AC}(hs:dj code=false)(h:aB P code=.loop c):∃x,code=.loop x∧aB P x=c:=by
 cases code<;>simp[aB,dj] at h hs
 case region id os draw=>
  rcases gX (P:=P) (os:=os) (draw:=draw) with⟨l,hl⟩|⟨l,wn,hl⟩|hl<;>rw[hl] at h<;>simp at h
 case cond c x y=>split at h<;>simp at h
 case loop x=>exact⟨x,rfl,h⟩
 case rangeFunc f ps x y=>split at h<;>simp at h
theorem xJ{code:Code}{id:Nat}(hs:dj code=false)(h:aB P code=.exit id):code=.exit id:=by
 cases code<;>simp[aB,dj] at h hs
 case region id os draw=>
  rcases gX (P:=P) (os:=os) (draw:=draw) with⟨l,hl⟩|⟨l,wn,hl⟩|hl<;>rw[hl] at h<;>simp at h
 case cond c x y=>split at h<;>simp at h
 case exit i=>rw[h]
 case rangeFunc f ps x y=>split at h<;>simp at h
theorem zH{code:Code}(hs:dj code=false)(h:aB P code=.ret):code=.ret:=by
 cases code<;>simp[aB,dj] at h hs
 case region id os draw=>
  rcases gX (P:=P) (os:=os) (draw:=draw) with⟨l,hl⟩|⟨l,wn,hl⟩|hl<;>rw[hl] at h<;>simp at h
 case cond c x y=>split at h<;>simp at h
 case ret=>rfl
 case rangeFunc f ps x y=>split at h<;>simp at h
theorem dY{code:Code}{l:List bu}(hs:dj code=false)(h:aB P code=.ops l):∃id os,code=.region id os false∧os.toList.map (bF P os)=l:=by
 cases code<;>simp[aB,dj] at h hs
 case region id os draw=>
  obtain⟨rfl,h2⟩:=DO h;exact⟨id,os,rfl,h2⟩
 case cond c x y=>split at h<;>simp at h
 case rangeFunc f ps x y=>split at h<;>simp at h
theorem xK{code:Code}(hs:dj code=false)(h:aB P code=.skip):code=.skip∨∃l,code=.label l:=by
 cases code<;>simp[aB,dj] at h hs
 case region id os draw=>
  rcases gX (P:=P) (os:=os) (draw:=draw) with⟨l,hl⟩|⟨l,wn,hl⟩|hl<;>rw[hl] at h<;>simp at h
 case skip=>exact .inl rfl
 case label l=>exact .inr ⟨l,rfl⟩
 case cond c x y=>split at h<;>simp at h
 case rangeFunc f ps x y=>split at h<;>simp at h
theorem o6{code:Code}{r:bE}{ps:List Nat}{c d:AC}(hs:dj code=false)(h:aB P code=.rangeFunc r ps c d):
  ∃g qs x y,code=.rangeFunc g qs x y∧dD g=some r∧qs.toList=ps∧aB P x=c∧aB P y=d:=by
 cases code<;>simp[aB,dj] at h hs
 case region id os draw=>
  rcases gX (P:=P) (os:=os) (draw:=draw) with⟨l,hl⟩|⟨l,wn,hl⟩|hl<;>rw[hl] at h<;>simp at h
 case cond c x y=>split at h<;>simp at h
 case rangeFunc g qs x y=>
  split at h
  ·rename_i r' hr;simp only[AC.rangeFunc.injEq] at h;exact⟨g,qs,x,y,rfl,by rw[hr,h.1],h.2.1,h.2.2.1,h.2.2.2⟩
  ·simp at h
theorem KW:bD P H0 rd .skip e h .normal e h:=by
 refine cM fun code hs hc N hN ro hro ρ D w a W0 n tl hi he hm hW=>?_;rcases xK hs hc with rfl|⟨l,rfl⟩
 ·exact wpIn_skip (qH rfl hi he hm)
 ·exact wpIn_label (qH rfl hi he hm)
theorem KS{id:Nat}:bD P H0 rd (.exit id) e h (.exit id) e h:=by
 refine cM fun code hs hc N hN ro hro ρ D w a W0 n tl hi he hm hW=>?_;rw[xJ hs hc];exact wpIn_exit (qH rfl hi he hm)
theorem OO:bD P H0 rd .ret e h .ret e h:=by
 refine cM fun code hs hc N hN ro hro ρ D w a W0 n tl hi he hm hW=>?_;rw[zH hs hc];exact wpIn_ret (qH rfl hi he hm)
theorem ON{l:List bu}{tr:List aJ}(kN:OT P H0 l e h tr e' h'):bD P H0 rd (.ops l) e h .normal e' h':=by
 refine cM fun code hs hc N hN ro hro ρ D w a W0 n tl hi he hm hW=>?_;obtain⟨id,os,rfl,hos⟩:=dY hs hc;refine wpIn_region_list ?_;refine ox kN hos hN hi he ?_;intro ρ' w' a' g1 g2 g3 g4;exact⟨ρ',rfl,g1,g2,g3,by rw[g4];exact hm.ext hi.lt g2,fun _=>g4⟩
theorem KT{l l2:List bu}{i0:bu}{tr:List aJ}{v:AV}{h2:Heap}(kN:OT P H0 l e h tr e' h')(hw0:bN i0 e'=true)(hop:i0.op≠.bad∧mY P H0 i0.op (i0.args.map e'.ev) h' v h2):bD P H0 rd (.ops (l++i0::l2)) e h (.panic v) e' h2:=by
 refine cM fun code hs hc N hN ro hro ρ D w a W0 n tl hi he hm hW=>?_;obtain⟨id,os,rfl,hos⟩:=dY hs hc;refine wpIn_region_list ?_;have Tb:de N (l++i0::l2)=true:=hN;rw[qD,Bool.and_eq_true] at Tb;refine kg kN hw0 hop.1 hop.2 hos Tb.1 hi he ?_;intro ρ' w' a' g1 g2 g3 g4 g5;exact⟨ρ',⟨rfl,g5⟩,g1,g2,g3,by rw[g4];exact hm.ext hi.lt g2,fun _=>g4⟩
theorem KU{c d:AC}{e1:Env}{x:AX}(tW:bD P H0 rd c e h .normal e1 h1)(QM:bD P H0 rd d e1 h1 x e' h'):bD P H0 rd (.seq c d) e h x e' h':=by
 refine cM fun code hs hc N hN ro hro ρ D w a W0 n tl hi he hm hW=>?_;obtain⟨y,z,rfl,hy,hz⟩:=fN hs hc;simp only[codeOk,Bool.and_eq_true] at hN;refine wpIn_seq ?_;refine Code.wpIn_mono ?_ (tW y hy N hN.1 ro hro ρ D w a W0 n tl hi he hm hW);rintro ex a' w' ⟨ρ',hx,g1,g2,g3,g4,g5⟩;have hx:ex=.normal:=hx;subst hx;show z.wpIn (FW ro) n P _ a' w';refine Code.wpIn_mono ?_ (QM z hz N hN.2 ro hro ρ' _ w' a' W0 n tl g1 g3 g4 (Nat.le_trans hW g2.size));intro ex2 a2 w2 hp;refine oz hi g2 (fun hn=>?_) hp;simp only[aX,Bool.and_eq_true] at hn;exact⟨hn.2,g5 hn.1⟩
theorem KV{c d:AC}{x:AX}(tW:bD P H0 rd c e h x e' h')(hx:x.bG=false):bD P H0 rd (.seq c d) e h x e' h':=by
 refine cM fun code hs hc N hN ro hro ρ D w a W0 n tl hi he hm hW=>?_;obtain⟨y,z,rfl,hy,hz⟩:=fN hs hc;simp only[codeOk,Bool.and_eq_true] at hN;refine wpIn_seq ?_;refine Code.wpIn_mono ?_ (tW y hy N hN.1 ro hro ρ D w a W0 n tl hi he hm hW);intro ex a' w' hp;have hp2:mK P H0 (aX (.seq c d)) a.defers tl W0 ρ D h w N x e' h' ex a' w':=qG (fun hn=>by simp only[aX,Bool.and_eq_true] at hn;exact hn.1) hp;have:=(vq hx hp).1;cases ex with
 |normal=>exact absurd rfl this
 |_=>exact hp2
theorem KQ{r:bE}{c d:AC}{t:Bool}{x:AX}(ht:e.ev r=.bool t)(tW:bD P H0 rd (bif t then c else d) e h x e' h'):bD P H0 rd (.cond r c d) e h x e' h':=by
 refine cM fun code hs hc N hN ro hro ρ D w a W0 n tl hi he hm hW=>?_;obtain⟨q,y,z,rfl,hq,hy,hz⟩:=qV hs hc;simp only[codeOk,Bool.and_eq_true] at hN;have hr:=(aD he hq).1;rw[ht] at hr;refine wpIn_cond (t:=t) (by simpa[real] using hr) ?_;cases t with
 |true=>exact Code.wpIn_mono (fun ex a' w' hp=>qG (fun hn=>by simp only[aX,Bool.and_eq_true] at hn;exact hn.1) hp) (tW y hy N hN.1 ro hro ρ D w a W0 n tl hi he hm hW)
 |false=>exact Code.wpIn_mono (fun ex a' w' hp=>qG (fun hn=>by simp only[aX,Bool.and_eq_true] at hn;exact hn.2) hp) (tW z hz N hN.2 ro hro ρ D w a W0 n tl hi he hm hW)
theorem DU{id:Nat}{c:AC}(tW:bD P H0 rd c e h (.exit id) e' h'):bD P H0 rd (.block id c) e h .normal e' h':=by
 refine cM fun code hs hc N hN ro hro ρ D w a W0 n tl hi he hm hW=>?_;obtain⟨y,rfl,hy⟩:=jD hs hc;refine wpIn_block ?_;refine Code.wpIn_mono ?_ (tW y hy N hN ro hro ρ D w a W0 n tl hi he hm hW);rintro ex a' w' ⟨ρ',hx,rest⟩;have hx:ex=.exit id:=hx;subst hx;simp only[Exit.inBlock,if_true];exact⟨ρ',rfl,rest⟩
theorem DT{id:Nat}{c:AC}{x:AX}(tW:bD P H0 rd c e h x e' h')(hne:∀i,x=.exit i→i≠id):bD P H0 rd (.block id c) e h x e' h':=by
 refine cM fun code hs hc N hN ro hro ρ D w a W0 n tl hi he hm hW=>?_;obtain⟨y,rfl,hy⟩:=jD hs hc;refine wpIn_block ?_;refine Code.wpIn_mono ?_ (tW y hy N hN ro hro ρ D w a W0 n tl hi he hm hW);rintro ex a' w' ⟨ρ',hx,rest⟩;cases x with
 |exit i=>
  have hx:ex=.exit i:=hx;subst hx;simp only[Exit.inBlock,if_neg (hne i rfl)];exact⟨ρ',rfl,rest⟩
 |normal=>have hx:ex=.normal:=hx;subst hx;exact⟨ρ',rfl,rest⟩
 |ret=>have hx:ex=.ret:=hx;subst hx;exact⟨ρ',rfl,rest⟩
 |panic v=>obtain⟨hx,hd⟩:=hx;subst hx;exact⟨ρ',⟨rfl,hd⟩,rest⟩
theorem Sa{c:AC}{e1:Env}{x:AX}(tW:bD P H0 rd c e h .normal e1 h1)(QM:mJ P H0 rd c e1 h1 x e' h'):mJ P H0 rd c e h x e' h':=by
 intro code hc N hN ro hro ρ D w a W0 n tl hi he hm hW;refine m8 ?_;refine Code.wpIn_mono ?_ (tW code hc N hN ro hro ρ D w a W0 n tl hi he hm hW);rintro ex a' w' ⟨ρ',hx,g1,g2,g3,g4,g5⟩;have hx:ex=.normal:=hx;subst hx;show sq (FW ro) n P code _ a' w';have:=QM code hc N hN ro hro ρ' _ w' a' W0 n tl g1 g3 g4 (Nat.le_trans hW g2.size);intro b k cs wh hb hr;obtain⟨e2,a2,w2,hp,gK⟩:=this b k cs wh hb hr;exact⟨e2,a2,w2,oz hi g2 (fun hn=>⟨hn,g5 hn⟩) hp,gK⟩
theorem Sb{c:AC}{x:AX}(tW:bD P H0 rd c e h x e' h')(hx:x.bG=false):mJ P H0 rd c e h x e' h':=by
 intro code hc N hN ro hro ρ D w a W0 n tl hi he hm hW;refine m8 ?_;refine Code.wpIn_mono ?_ (tW code hc N hN ro hro ρ D w a W0 n tl hi he hm hW);intro ex a' w' hp;have:=(vq hx hp).1;cases ex with
 |normal=>exact absurd rfl this
 |_=>exact hp
theorem Cm{c:AC}{x:AX}(tW:mJ P H0 rd c e h x e' h'):bD P H0 rd (.loop c) e h x e' h':=by
 refine cM fun code hs hc N hN ro hro ρ D w a W0 n tl hi he hm hW=>?_;obtain⟨y,rfl,hy⟩:=qX hs hc;exact qe (tW y hy N hN ro hro ρ D w a W0 n tl hi he hm hW)
end
end Ads
end Go.Proofs.YtnlcabhfkpafmaaGreat
