/-
  What big steps mean in the model: code.
-/
import Derived.Test.YtenafeojcgmnhaaAdsSem
set_option linter.unusedSimpArgs false
set_option linter.unusedVariables false
namespace Go.Proofs.Ytenafeojcgmnhaa
namespace Ads
section
variable {P:Program} {H0 W0:Nat} {ρ ρ':cD} {D D':Dom} {h h' h1:Heap} {w w':World} {N n:Nat} {env e e':Env} {a:Act} {ro:Option Nat} {rd:Bool}
variable {F:Fence} {Q:Exit→Act→World→Prop}
theorem lT{c:Code}(hq:∀l a w,¬Q (.goto l) a w)(h:c.wpIn F n P Q a w):(Code.scope c).wpIn F n P Q a w:=by
 intro b k cs hro hb hr;obtain⟨e,a₁,w₁,mT,gT⟩:=h b (.inScope c::k) cs hro hb hr;have s0:step P (lone (b.atR a (.code (.scope c)::k)) cs w)=.next (lone (b.atR a (.code c::.inScope c::k)) cs w):=
  step_lone_go (by simp[stepG,stepG.exec,Frame.atR])
 have s1:∀(a:Act) (w:World),step P (lone (b.atR a (.inScope c::k)) cs w)=.next (lone (b.atR a k) cs w):=fun a w=>
  step_lone_go (by simp[stepG,stepG.exec,Frame.atR])
 have f0:(lone (b.atR a (.code (.scope c)::k)) cs w).fenced P F:=fenced_calm hb hr rfl;have hs:StepsIn (Machine.fenced P F) P (lone (b.atR a (.code (.scope c)::k)) cs w) (lone (b.atR a (.code c::.inScope c::k)) cs w):=.one f0 s0;cases e with
 |normal=>exact⟨.normal,a₁,w₁,mT,hs.trans (StepsIn.trans gT (.one (fenced_calm (fr:=b.atR a₁ (.inScope c::k)) hb hr rfl) (s1 a₁ w₁)))⟩
 |exit id=>
  refine⟨.exit id,a₁,w₁,mT,fun k' hk=>hs.trans (gT.1 k' (by simp[exitTo,hk])),fun hr hk=>?_⟩;obtain⟨k₁,h1,h2⟩:=gT.2 hr (by simp[exitTo,hk]);exact⟨k₁,h1,hs.trans h2⟩
 |goto l=>exact absurd mT (hq l a₁ w₁)
 |ret=>exact⟨_,a₁,w₁,mT,fun hr=>let⟨todo,h1⟩:=gT.1 hr;⟨todo,hs.trans h1⟩,fun hr=>let⟨k₁,h1⟩:=gT.2 hr;⟨k₁,hs.trans h1⟩⟩
 |panic ch=>obtain⟨todo,h1⟩:=gT;exact⟨_,a₁,w₁,mT,todo,hs.trans h1⟩
 |outgrown=>exact⟨_,a₁,w₁,mT,gT.imp id (Outgrown.of_steps hs.steps)⟩
theorem mF{c:Code}(h:c.wpIn F n P (Exit.then (rj F n P c Q) Q) a w):rj F n P c Q a w:=by
 intro b k cs hro hb hr;obtain⟨e,a₁,w₁,hq,gT⟩:=h b (.inLoop c::k) cs hro hb hr;cases e with
 |normal=>
  obtain⟨e₂,a₂,w₂,Qr,Jz⟩:=hq b k cs hro hb hr;have s1:step P (lone (b.atR a₁ (.inLoop c::k)) cs w₁)=.next (lone (b.atR a₁ (.code c::.inLoop c::k)) cs w₁):=
   step_lone_go (by simp[stepG,stepG.exec,Frame.atR])
  exact⟨e₂,a₂,w₂,Qr,.of_steps (StepsIn.trans gT (.one (fenced_calm (fr:=b.atR a₁ (.inLoop c::k)) hb hr rfl) s1)) Jz⟩
 |exit id=>exact⟨_,a₁,w₁,hq,.pass (x:=.inLoop c) rfl (fun _ _=>.inl (by simp)) gT⟩
 |goto l=>exact⟨_,a₁,w₁,hq,.pass (x:=.inLoop c) rfl (fun _ _=>.inl (by simp)) gT⟩
 |ret=>exact⟨_,a₁,w₁,hq,.pass (x:=.inLoop c) rfl (fun _ _=>.inl (by simp)) gT⟩
 |panic ch=>exact⟨_,a₁,w₁,hq,.pass (x:=.inLoop c) rfl (fun _ _=>.inl (by simp)) gT⟩
 |outgrown=>exact⟨_,a₁,w₁,hq,.pass (x:=.inLoop c) rfl (fun _ _=>.inl (by simp)) gT⟩
theorem o9{c:Code}(h:rj F n P c Q a w):(Code.loop c).wpIn F n P Q a w:=by
 intro b k cs hro hb hr;obtain⟨e,a₁,w₁,hq,gT⟩:=h b k cs hro hb hr;have s0:step P (lone (b.atR a (.code (.loop c)::k)) cs w)=.next (lone (b.atR a (.code c::.inLoop c::k)) cs w):=
  step_lone_go (by simp[stepG,stepG.exec,Frame.atR])
 exact⟨e,a₁,w₁,hq,.of_steps (.one (fenced_calm hb hr rfl) s0) gT⟩
def cX:Code→Bool
 |.scope _=>true
 |_=>false
theorem cG{c:AC}{x:AX}(GG:∀(code:Code),cX code=false→aD P code=c→∀(N:Nat),codeOk N c=true→∀(ro:Option Nat),ro.isSome=rd→∀(ρ:cD) (D:Dom) (w:World) (a:Act) (W0 n:Nat) (tl:List Deferred),
  Inv P H0 ρ D h w→bJ ρ D N e a→jm tl W0 ρ D h w a.defers→W0≤w.heap.size→code.wpIn (FW ro) n P (l8 P H0 (aY c) a.defers tl W0 ρ D h w N x e' h') a w):bF P H0 rd c e h x e' h':=by
 intro code;induction code with
 |scope c' ih=>
  intro hc N hN ro hro ρ D w a W0 n tl hi he hm hW;refine lT ?_ (ih (by simpa[aD] using hc) N hN ro hro ρ D w a W0 n tl hi he hm hW);intro l a w hh;obtain⟨ρ',hx,_⟩:=hh;cases x<;>simp[FD] at hx
 |_=>intro hc N hN ro hro ρ D w a W0 n tl hi he hm hW;exact GG _ rfl hc N hN ro hro ρ D w a W0 n tl hi he hm hW
theorem CU{os:Array Oper}{draw:Bool}{l:List bq}(h:gY P os draw=.ops l):draw=false∧os.toList.map (bH P os)=l:=by
 unfold gY at h;cases draw with
 |false=>simp at h;exact⟨rfl,h⟩
 |true=>simp only[Bool.not_true,Bool.false_eq_true,if_false] at h;split at h<;>simp at h
theorem ir{os:Array Oper}{draw:Bool}:(∃l,gY P os draw=.ops l)∨(∃l win,gY P os draw=.bN l win)∨gY P os draw=.bad:=by
 unfold gY;cases draw with
 |false=>exact .inl ⟨_,by simp;rfl⟩
 |true=>
  simp only[Bool.not_true,Bool.false_eq_true,if_false];split
  ·exact .inr (.inl ⟨_,_,rfl⟩)
  ·exact .inr (.inr rfl)
theorem p7{nr:Bool}{tl:List Deferred}{x:AX}{ex:Exit}(hx:FD ρ (grow D h.next h.next) x ex)(hi:Inv P H0 ρ D h w)(he:bJ ρ D N e a)(hm:jm tl W0 ρ D h w a.defers):l8 P H0 nr a.defers tl W0 ρ D h w N x e h ex a w:=by
 refine⟨ρ,hx,?_⟩;rw[bn];exact⟨hi,Ext.refl _ _ _ _,he,hm,fun _=>rfl⟩
theorem nJ{nr QX:Bool}{ds Vy:List Deferred}{tl:List Deferred}{x:AX}{w1:World}{pn:cD}(hi:Inv P H0 ρ D h w)(x1:Ext ρ D h w pn h1 w1){ex:Exit}{a2:Act}{w2:World}(Fw:nr=true→QX=true∧Vy=ds)
  (hp:l8 P H0 QX Vy tl W0 pn (grow D h.next h1.next) h1 w1 N x e' h' ex a2 w2):l8 P H0 nr ds tl W0 ρ D h w N x e' h' ex a2 w2:=by
 obtain⟨iY,hx,g1,g2,g3,g4,g5⟩:=hp;have hn:=g2.next;rw[dD D x1.next hn] at hx g1 g3 g4;exact⟨iY,hx,g1,Ext.trans hi.lt x1 g2,g3,g4,fun h=>(g5 (Fw h).1).trans (Fw h).2⟩
theorem p6{nr QX:Bool}{ds tl:List Deferred}{x:AX}{ex:Exit}{a2:Act}{w2:World}(Fw:nr=true→QX=true)(hp:l8 P H0 QX ds tl W0 ρ D h w N x e' h' ex a2 w2):l8 P H0 nr ds tl W0 ρ D h w N x e' h' ex a2 w2:=by
 obtain⟨iY,hx,g1,g2,g3,g4,g5⟩:=hp;exact⟨iY,hx,g1,g2,g3,g4,fun h=>g5 (Fw h)⟩
theorem uJ{nr:Bool}{ds tl:List Deferred}{x:AX}{ex:Exit}{a2:Act}{w2:World}(hx:x.bI=false)(hp:l8 P H0 nr ds tl W0 ρ D h w N x e' h' ex a2 w2):ex≠.normal∧(∀l,ex≠.goto l)∧ex≠.outgrown:=by
 obtain⟨iY,hx',_⟩:=hp;cases x with
 |normal=>simp[AX.bI] at hx
 |exit id=>have h:ex=.exit id:=hx';subst h;exact⟨by simp,by simp,by simp⟩
 |ret=>have h:ex=.ret:=hx';subst h;exact⟨by simp,by simp,by simp⟩
 |panic v=>obtain⟨h,_⟩:=hx';subst h;exact⟨by simp,by simp,by simp⟩
theorem fW{code:Code}{c d:AC}(hs:cX code=false)(h:aD P code=.seq c d):∃x y,code=.seq x y∧aD P x=c∧aD P y=d:=by
 cases code<;>simp[aD,cX] at h hs
 case region id os draw=>
  rcases ir (P:=P) (os:=os) (draw:=draw) with⟨l,hl⟩|⟨l,wn,hl⟩|hl<;>rw[hl] at h<;>simp at h
 case seq x y=>exact⟨x,y,rfl,h.1,h.2⟩
 case cond c x y=>split at h<;>simp at h
 case rangeFunc f ps x y=>split at h<;>simp at h
theorem qu{code:Code}{r:bG}{c d:AC}(hs:cX code=false)(h:aD P code=.cond r c d):∃q x y,code=.cond q x y∧dh q=some r∧aD P x=c∧aD P y=d:=by
 cases code<;>simp[aD,cX] at h hs
 case region id os draw=>
  rcases ir (P:=P) (os:=os) (draw:=draw) with⟨l,hl⟩|⟨l,wn,hl⟩|hl<;>rw[hl] at h<;>simp at h
 case cond q x y=>
  split at h
  ·rename_i r' hr;simp only[AC.cond.injEq] at h;exact⟨q,x,y,rfl,by rw[hr,h.1],h.2.1,h.2.2⟩
  ·simp at h
 case rangeFunc f ps x y=>split at h<;>simp at h
theorem jn{code:Code}{id:Nat}{c:AC}(hs:cX code=false)(h:aD P code=.block id c):∃x,code=.block id x∧aD P x=c:=by
 cases code<;>simp[aD,cX] at h hs
 case region id os draw=>
  rcases ir (P:=P) (os:=os) (draw:=draw) with⟨l,hl⟩|⟨l,wn,hl⟩|hl<;>rw[hl] at h<;>simp at h
 case cond c x y=>split at h<;>simp at h
 case block i x=>exact⟨x,by rw[h.1],h.2⟩
 case rangeFunc f ps x y=>split at h<;>simp at h
theorem qw{code:Code}{c:AC}(hs:cX code=false)(h:aD P code=.loop c):∃x,code=.loop x∧aD P x=c:=by
 cases code<;>simp[aD,cX] at h hs
 case region id os draw=>
  rcases ir (P:=P) (os:=os) (draw:=draw) with⟨l,hl⟩|⟨l,wn,hl⟩|hl<;>rw[hl] at h<;>simp at h
 case cond c x y=>split at h<;>simp at h
 case loop x=>exact⟨x,rfl,h⟩
 case rangeFunc f ps x y=>split at h<;>simp at h
theorem wH{code:Code}{id:Nat}(hs:cX code=false)(h:aD P code=.exit id):code=.exit id:=by
 cases code<;>simp[aD,cX] at h hs
 case region id os draw=>
  rcases ir (P:=P) (os:=os) (draw:=draw) with⟨l,hl⟩|⟨l,wn,hl⟩|hl<;>rw[hl] at h<;>simp at h
 case cond c x y=>split at h<;>simp at h
 case exit i=>rw[h]
 case rangeFunc f ps x y=>split at h<;>simp at h
theorem yE{code:Code}(hs:cX code=false)(h:aD P code=.ret):code=.ret:=by
 cases code<;>simp[aD,cX] at h hs
 case region id os draw=>
  rcases ir (P:=P) (os:=os) (draw:=draw) with⟨l,hl⟩|⟨l,wn,hl⟩|hl<;>rw[hl] at h<;>simp at h
 case cond c x y=>split at h<;>simp at h
 case ret=>rfl
 case rangeFunc f ps x y=>split at h<;>simp at h
theorem dR{code:Code}{l:List bq}(hs:cX code=false)(h:aD P code=.ops l):∃id os,code=.region id os false∧os.toList.map (bH P os)=l:=by
 cases code<;>simp[aD,cX] at h hs
 case region id os draw=>
  obtain⟨rfl,h2⟩:=CU h;exact⟨id,os,rfl,h2⟩
 case cond c x y=>split at h<;>simp at h
 case rangeFunc f ps x y=>split at h<;>simp at h
theorem wI{code:Code}(hs:cX code=false)(h:aD P code=.skip):code=.skip∨∃l,code=.label l:=by
 cases code<;>simp[aD,cX] at h hs
 case region id os draw=>
  rcases ir (P:=P) (os:=os) (draw:=draw) with⟨l,hl⟩|⟨l,wn,hl⟩|hl<;>rw[hl] at h<;>simp at h
 case skip=>exact .inl rfl
 case label l=>exact .inr ⟨l,rfl⟩
 case cond c x y=>split at h<;>simp at h
 case rangeFunc f ps x y=>split at h<;>simp at h
theorem ou{code:Code}{r:bG}{ps:List Nat}{c d:AC}(hs:cX code=false)(h:aD P code=.rangeFunc r ps c d):
  ∃g qs x y,code=.rangeFunc g qs x y∧dh g=some r∧qs.toList=ps∧aD P x=c∧aD P y=d:=by
 cases code<;>simp[aD,cX] at h hs
 case region id os draw=>
  rcases ir (P:=P) (os:=os) (draw:=draw) with⟨l,hl⟩|⟨l,wn,hl⟩|hl<;>rw[hl] at h<;>simp at h
 case cond c x y=>split at h<;>simp at h
 case rangeFunc g qs x y=>
  split at h
  ·rename_i r' hr;simp only[AC.rangeFunc.injEq] at h;exact⟨g,qs,x,y,rfl,by rw[hr,h.1],h.2.1,h.2.2.1,h.2.2.2⟩
  ·simp at h
theorem Il:bF P H0 rd .skip e h .normal e h:=by
 refine cG fun code hs hc N hN ro hro ρ D w a W0 n tl hi he hm hW=>?_;rcases wI hs hc with rfl|⟨l,rfl⟩
 ·exact wpIn_skip (p7 rfl hi he hm)
 ·exact wpIn_label (p7 rfl hi he hm)
theorem Ih{id:Nat}:bF P H0 rd (.exit id) e h (.exit id) e h:=by
 refine cG fun code hs hc N hN ro hro ρ D w a W0 n tl hi he hm hW=>?_;rw[wH hs hc];exact wpIn_exit (p7 rfl hi he hm)
theorem KE:bF P H0 rd .ret e h .ret e h:=by
 refine cG fun code hs hc N hN ro hro ρ D w a W0 n tl hi he hm hW=>?_;rw[yE hs hc];exact wpIn_ret (p7 rfl hi he hm)
theorem KD{l:List bq}{tr:List aK}(kq:OT P H0 l e h tr e' h'):bF P H0 rd (.ops l) e h .normal e' h':=by
 refine cG fun code hs hc N hN ro hro ρ D w a W0 n tl hi he hm hW=>?_;obtain⟨id,os,rfl,hos⟩:=dR hs hc;refine wpIn_region_list ?_;refine nH kq hos hN hi he ?_;intro ρ' w' a' g1 g2 g3 g4;exact⟨ρ',rfl,g1,g2,g3,by rw[g4];exact hm.ext hi.lt g2,fun _=>g4⟩
theorem Ii{l l2:List bq}{i0:bq}{tr:List aK}{v:AV}{h2:Heap}(kq:OT P H0 l e h tr e' h')(hw0:bP i0 e'=true)(hop:i0.op≠.bad∧mw P H0 i0.op (i0.args.map e'.ev) h' v h2):bF P H0 rd (.ops (l++i0::l2)) e h (.panic v) e' h2:=by
 refine cG fun code hs hc N hN ro hro ρ D w a W0 n tl hi he hm hW=>?_;obtain⟨id,os,rfl,hos⟩:=dR hs hc;refine wpIn_region_list ?_;have N9:cV N (l++i0::l2)=true:=hN;rw[pX,Bool.and_eq_true] at N9;refine jS kq hw0 hop.1 hop.2 hos N9.1 hi he ?_;intro ρ' w' a' g1 g2 g3 g4 g5;exact⟨ρ',⟨rfl,g5⟩,g1,g2,g3,by rw[g4];exact hm.ext hi.lt g2,fun _=>g4⟩
theorem Ij{c d:AC}{e1:Env}{x:AX}(tj:bF P H0 rd c e h .normal e1 h1)(Mi:bF P H0 rd d e1 h1 x e' h'):bF P H0 rd (.seq c d) e h x e' h':=by
 refine cG fun code hs hc N hN ro hro ρ D w a W0 n tl hi he hm hW=>?_;obtain⟨y,z,rfl,hy,hz⟩:=fW hs hc;simp only[codeOk,Bool.and_eq_true] at hN;refine wpIn_seq ?_;refine Code.wpIn_mono ?_ (tj y hy N hN.1 ro hro ρ D w a W0 n tl hi he hm hW);rintro ex a' w' ⟨ρ',hx,g1,g2,g3,g4,g5⟩;have hx:ex=.normal:=hx;subst hx;show z.wpIn (FW ro) n P _ a' w';refine Code.wpIn_mono ?_ (Mi z hz N hN.2 ro hro ρ' _ w' a' W0 n tl g1 g3 g4 (Nat.le_trans hW g2.size));intro ex2 a2 w2 hp;refine nJ hi g2 (fun hn=>?_) hp;simp only[aY,Bool.and_eq_true] at hn;exact⟨hn.2,g5 hn.1⟩
theorem Ik{c d:AC}{x:AX}(tj:bF P H0 rd c e h x e' h')(hx:x.bI=false):bF P H0 rd (.seq c d) e h x e' h':=by
 refine cG fun code hs hc N hN ro hro ρ D w a W0 n tl hi he hm hW=>?_;obtain⟨y,z,rfl,hy,hz⟩:=fW hs hc;simp only[codeOk,Bool.and_eq_true] at hN;refine wpIn_seq ?_;refine Code.wpIn_mono ?_ (tj y hy N hN.1 ro hro ρ D w a W0 n tl hi he hm hW);intro ex a' w' hp;have Cs:l8 P H0 (aY (.seq c d)) a.defers tl W0 ρ D h w N x e' h' ex a' w':=p6 (fun hn=>by simp only[aY,Bool.and_eq_true] at hn;exact hn.1) hp;have:=(uJ hx hp).1;cases ex with
 |normal=>exact absurd rfl this
 |_=>exact Cs
theorem Ie{r:bG}{c d:AC}{t:Bool}{x:AX}(ht:e.ev r=.bool t)(tj:bF P H0 rd (bif t then c else d) e h x e' h'):bF P H0 rd (.cond r c d) e h x e' h':=by
 refine cG fun code hs hc N hN ro hro ρ D w a W0 n tl hi he hm hW=>?_;obtain⟨q,y,z,rfl,hq,hy,hz⟩:=qu hs hc;simp only[codeOk,Bool.and_eq_true] at hN;have hr:=(aF he hq).1;rw[ht] at hr;refine wpIn_cond (t:=t) (by simpa[real] using hr) ?_;cases t with
 |true=>exact Code.wpIn_mono (fun ex a' w' hp=>p6 (fun hn=>by simp only[aY,Bool.and_eq_true] at hn;exact hn.1) hp) (tj y hy N hN.1 ro hro ρ D w a W0 n tl hi he hm hW)
 |false=>exact Code.wpIn_mono (fun ex a' w' hp=>p6 (fun hn=>by simp only[aY,Bool.and_eq_true] at hn;exact hn.2) hp) (tj z hz N hN.2 ro hro ρ D w a W0 n tl hi he hm hW)
theorem CW{id:Nat}{c:AC}(tj:bF P H0 rd c e h (.exit id) e' h'):bF P H0 rd (.block id c) e h .normal e' h':=by
 refine cG fun code hs hc N hN ro hro ρ D w a W0 n tl hi he hm hW=>?_;obtain⟨y,rfl,hy⟩:=jn hs hc;refine wpIn_block ?_;refine Code.wpIn_mono ?_ (tj y hy N hN ro hro ρ D w a W0 n tl hi he hm hW);rintro ex a' w' ⟨ρ',hx,rest⟩;have hx:ex=.exit id:=hx;subst hx;simp only[Exit.inBlock,if_true];exact⟨ρ',rfl,rest⟩
theorem CV{id:Nat}{c:AC}{x:AX}(tj:bF P H0 rd c e h x e' h')(hne:∀i,x=.exit i→i≠id):bF P H0 rd (.block id c) e h x e' h':=by
 refine cG fun code hs hc N hN ro hro ρ D w a W0 n tl hi he hm hW=>?_;obtain⟨y,rfl,hy⟩:=jn hs hc;refine wpIn_block ?_;refine Code.wpIn_mono ?_ (tj y hy N hN ro hro ρ D w a W0 n tl hi he hm hW);rintro ex a' w' ⟨ρ',hx,rest⟩;cases x with
 |exit i=>
  have hx:ex=.exit i:=hx;subst hx;simp only[Exit.inBlock,if_neg (hne i rfl)];exact⟨ρ',rfl,rest⟩
 |normal=>have hx:ex=.normal:=hx;subst hx;exact⟨ρ',rfl,rest⟩
 |ret=>have hx:ex=.ret:=hx;subst hx;exact⟨ρ',rfl,rest⟩
 |panic v=>obtain⟨hx,hd⟩:=hx;subst hx;exact⟨ρ',⟨rfl,hd⟩,rest⟩
theorem Ng{c:AC}{e1:Env}{x:AX}(tj:bF P H0 rd c e h .normal e1 h1)(Mi:l7 P H0 rd c e1 h1 x e' h'):l7 P H0 rd c e h x e' h':=by
 intro code hc N hN ro hro ρ D w a W0 n tl hi he hm hW;refine mF ?_;refine Code.wpIn_mono ?_ (tj code hc N hN ro hro ρ D w a W0 n tl hi he hm hW);rintro ex a' w' ⟨ρ',hx,g1,g2,g3,g4,g5⟩;have hx:ex=.normal:=hx;subst hx;show rj (FW ro) n P code _ a' w';have:=Mi code hc N hN ro hro ρ' _ w' a' W0 n tl g1 g3 g4 (Nat.le_trans hW g2.size);intro b k cs vo hb hr;obtain⟨e2,a2,w2,hp,gT⟩:=this b k cs vo hb hr;exact⟨e2,a2,w2,nJ hi g2 (fun hn=>⟨hn,g5 hn⟩) hp,gT⟩
theorem Nh{c:AC}{x:AX}(tj:bF P H0 rd c e h x e' h')(hx:x.bI=false):l7 P H0 rd c e h x e' h':=by
 intro code hc N hN ro hro ρ D w a W0 n tl hi he hm hW;refine mF ?_;refine Code.wpIn_mono ?_ (tj code hc N hN ro hro ρ D w a W0 n tl hi he hm hW);intro ex a' w' hp;have:=(uJ hx hp).1;cases ex with
 |normal=>exact absurd rfl this
 |_=>exact hp
theorem BB{c:AC}{x:AX}(tj:l7 P H0 rd c e h x e' h'):bF P H0 rd (.loop c) e h x e' h':=by
 refine cG fun code hs hc N hN ro hro ρ D w a W0 n tl hi he hm hW=>?_;obtain⟨y,rfl,hy⟩:=qw hs hc;exact o9 (tj y hy N hN ro hro ρ D w a W0 n tl hi he hm hW)
end
end Ads
end Go.Proofs.Ytenafeojcgmnhaa
