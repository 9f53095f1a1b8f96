/-
  What big steps mean in the model: code.
-/
import Derived.Test.YtmnolnoeibhjgaaGreatAdsSem
set_option linter.unusedSimpArgs false
set_option linter.unusedVariables false
namespace Go.Proofs.YtmnolnoeibhjgaaGreat
namespace Ads
section
variable {P:Program} {H0 W0:Nat} {ρ ρ':cG} {D D':Dom} {h h' h1:Heap} {w w':World} {N n:Nat} {env e e':Env} {a:Act} {ro:Option Nat} {rd:Bool}
variable {F:Fence} {Q:Exit→Act→World→Prop}
theorem lO{c:Code}(hq:∀l a w,¬Q (.goto l) a w)(h:c.wpIn F n P Q a w):(Code.scope c).wpIn F n P Q a w:=by
 intro b k cs hro hb hr;obtain⟨e,a₁,w₁,mS,gk⟩:=h b (.inScope c::k) cs hro hb hr;have s0:step P (lone (b.atR a (.code (.scope c)::k)) cs w)=.next (lone (b.atR a (.code c::.inScope c::k)) cs w):=
  step_lone_go (by simp[stepG,stepG.exec,Frame.atR])
 have s1:∀(a:Act) (w:World),step P (lone (b.atR a (.inScope c::k)) cs w)=.next (lone (b.atR a k) cs w):=fun a w=>
  step_lone_go (by simp[stepG,stepG.exec,Frame.atR])
 have f0:(lone (b.atR a (.code (.scope c)::k)) cs w).fenced P F:=fenced_calm hb hr rfl;have hs:StepsIn (Machine.fenced P F) P (lone (b.atR a (.code (.scope c)::k)) cs w) (lone (b.atR a (.code c::.inScope c::k)) cs w):=.one f0 s0;cases e with
 |normal=>exact⟨.normal,a₁,w₁,mS,hs.trans (StepsIn.trans gk (.one (fenced_calm (fr:=b.atR a₁ (.inScope c::k)) hb hr rfl) (s1 a₁ w₁)))⟩
 |exit id=>
  refine⟨.exit id,a₁,w₁,mS,fun k' hk=>hs.trans (gk.1 k' (by simp[exitTo,hk])),fun hr hk=>?_⟩;obtain⟨k₁,h1,h2⟩:=gk.2 hr (by simp[exitTo,hk]);exact⟨k₁,h1,hs.trans h2⟩
 |goto l=>exact absurd mS (hq l a₁ w₁)
 |ret=>exact⟨_,a₁,w₁,mS,fun hr=>let⟨todo,h1⟩:=gk.1 hr;⟨todo,hs.trans h1⟩,fun hr=>let⟨k₁,h1⟩:=gk.2 hr;⟨k₁,hs.trans h1⟩⟩
 |panic ch=>obtain⟨todo,h1⟩:=gk;exact⟨_,a₁,w₁,mS,todo,hs.trans h1⟩
 |outgrown=>exact⟨_,a₁,w₁,mS,gk.imp id (Outgrown.of_steps hs.steps)⟩
theorem mF{c:Code}(h:c.wpIn F n P (Exit.then (rJ F n P c Q) Q) a w):rJ F n P c Q a w:=by
 intro b k cs hro hb hr;obtain⟨e,a₁,w₁,hq,gk⟩:=h b (.inLoop c::k) cs hro hb hr;cases e with
 |normal=>
  obtain⟨e₂,a₂,w₂,R6,JM⟩:=hq b k cs hro hb hr;have s1:step P (lone (b.atR a₁ (.inLoop c::k)) cs w₁)=.next (lone (b.atR a₁ (.code c::.inLoop c::k)) cs w₁):=
   step_lone_go (by simp[stepG,stepG.exec,Frame.atR])
  exact⟨e₂,a₂,w₂,R6,.of_steps (StepsIn.trans gk (.one (fenced_calm (fr:=b.atR a₁ (.inLoop c::k)) hb hr rfl) s1)) JM⟩
 |exit id=>exact⟨_,a₁,w₁,hq,.pass (x:=.inLoop c) rfl (fun _ _=>.inl (by simp)) gk⟩
 |goto l=>exact⟨_,a₁,w₁,hq,.pass (x:=.inLoop c) rfl (fun _ _=>.inl (by simp)) gk⟩
 |ret=>exact⟨_,a₁,w₁,hq,.pass (x:=.inLoop c) rfl (fun _ _=>.inl (by simp)) gk⟩
 |panic ch=>exact⟨_,a₁,w₁,hq,.pass (x:=.inLoop c) rfl (fun _ _=>.inl (by simp)) gk⟩
 |outgrown=>exact⟨_,a₁,w₁,hq,.pass (x:=.inLoop c) rfl (fun _ _=>.inl (by simp)) gk⟩
theorem pM{c:Code}(h:rJ F n P c Q a w):(Code.loop c).wpIn F n P Q a w:=by
 intro b k cs hro hb hr;obtain⟨e,a₁,w₁,hq,gk⟩:=h b k cs hro hb hr;have s0:step P (lone (b.atR a (.code (.loop c)::k)) cs w)=.next (lone (b.atR a (.code c::.inLoop c::k)) cs w):=
  step_lone_go (by simp[stepG,stepG.exec,Frame.atR])
 exact⟨e,a₁,w₁,hq,.of_steps (.one (fenced_calm hb hr rfl) s0) gk⟩
def c8:Code→Bool
 |.scope _=>true
 |_=>false
theorem cL{c:AC}{x:AX}(GV:∀(code:Code),c8 code=false→aE P code=c→∀(N:Nat),codeOk N c=true→∀(ro:Option Nat),ro.isSome=rd→∀(ρ:cG) (D:Dom) (w:World) (a:Act) (W0 n:Nat) (tl:List Deferred),
  Inv P H0 ρ D h w→bG ρ D N e a→jc tl W0 ρ D h w a.defers→W0≤w.heap.size→code.wpIn (FW ro) n P (lX P H0 (aU c) a.defers tl W0 ρ D h w N x e' h') a w):bD P H0 rd c e h x e' h':=by
 intro code;induction code with
 |scope c' ih=>
  intro hc N hN ro hro ρ D w a W0 n tl hi he hm hW;refine lO ?_ (ih (by simpa[aE] using hc) N hN ro hro ρ D w a W0 n tl hi he hm hW);intro l a w hh;obtain⟨ρ',hx,_⟩:=hh;cases x<;>simp[FP] at hx
 |_=>intro hc N hN ro hro ρ D w a W0 n tl hi he hm hW;exact GV _ rfl hc N hN ro hro ρ D w a W0 n tl hi he hm hW
theorem C0{os:Array Oper}{draw:Bool}{l:List bp}(h:gC P os draw=.ops l):draw=false∧os.toList.map (bE P os)=l:=by
 unfold gC at h;cases draw with
 |false=>simp at h;exact⟨rfl,h⟩
 |true=>simp only[Bool.not_true,Bool.false_eq_true,if_false] at h;split at h<;>simp at h
theorem gJ{os:Array Oper}{draw:Bool}:(∃l,gC P os draw=.ops l)∨(∃l win,gC P os draw=.bI l win)∨gC P os draw=.bad:=by
 unfold gC;cases draw with
 |false=>exact .inl ⟨_,by simp;rfl⟩
 |true=>
  simp only[Bool.not_true,Bool.false_eq_true,if_false];split
  ·exact .inr (.inl ⟨_,_,rfl⟩)
  ·exact .inr (.inr rfl)
theorem qj{nr:Bool}{tl:List Deferred}{x:AX}{ex:Exit}(hx:FP ρ (grow D h.next h.next) x ex)(hi:Inv P H0 ρ D h w)(he:bG ρ D N e a)(hm:jc tl W0 ρ D h w a.defers):lX P H0 nr a.defers tl W0 ρ D h w N x e h ex a w:=by
 refine⟨ρ,hx,?_⟩;rw[bn];exact⟨hi,Ext.refl _ _ _ _,he,hm,fun _=>rfl⟩
theorem nQ{nr Su:Bool}{ds Y4:List Deferred}{tl:List Deferred}{x:AX}{w1:World}{pO:cG}(hi:Inv P H0 ρ D h w)(x1:Ext ρ D h w pO h1 w1){ex:Exit}{a2:Act}{w2:World}(DI:nr=true→Su=true∧Y4=ds)
  (hp:lX P H0 Su Y4 tl W0 pO (grow D h.next h1.next) h1 w1 N x e' h' ex a2 w2):lX P H0 nr ds tl W0 ρ D h w N x e' h' ex a2 w2:=by
 obtain⟨iQ,hx,g1,g2,g3,g4,g5⟩:=hp;have hn:=g2.next;rw[dH D x1.next hn] at hx g1 g3 g4;exact⟨iQ,hx,g1,Ext.trans hi.lt x1 g2,g3,g4,fun h=>(g5 (DI h).1).trans (DI h).2⟩
theorem qi{nr Su:Bool}{ds tl:List Deferred}{x:AX}{ex:Exit}{a2:Act}{w2:World}(DI:nr=true→Su=true)(hp:lX P H0 Su ds tl W0 ρ D h w N x e' h' ex a2 w2):lX P H0 nr ds tl W0 ρ D h w N x e' h' ex a2 w2:=by
 obtain⟨iQ,hx,g1,g2,g3,g4,g5⟩:=hp;exact⟨iQ,hx,g1,g2,g3,g4,fun h=>g5 (DI h)⟩
theorem uM{nr:Bool}{ds tl:List Deferred}{x:AX}{ex:Exit}{a2:Act}{w2:World}(hx:x.bB=false)(hp:lX P H0 nr ds tl W0 ρ D h w N x e' h' ex a2 w2):ex≠.normal∧(∀l,ex≠.goto l)∧ex≠.outgrown:=by
 obtain⟨iQ,hx',_⟩:=hp;cases x with
 |normal=>simp[AX.bB] at hx
 |exit id=>have h:ex=.exit id:=hx';subst h;exact⟨by simp,by simp,by simp⟩
 |ret=>have h:ex=.ret:=hx';subst h;exact⟨by simp,by simp,by simp⟩
 |panic v=>obtain⟨h,_⟩:=hx';subst h;exact⟨by simp,by simp,by simp⟩
theorem fo{code:Code}{c d:AC}(hs:c8 code=false)(h:aE P code=.seq c d):∃x y,code=.seq x y∧aE P x=c∧aE P y=d:=by
 cases code<;>simp[aE,c8] at h hs
 case region id os draw=>
  rcases gJ (P:=P) (os:=os) (draw:=draw) with⟨l,hl⟩|⟨l,wn,hl⟩|hl<;>rw[hl] at h<;>simp at h
 case seq x y=>exact⟨x,y,rfl,h.1,h.2⟩
 case cond c x y=>split at h<;>simp at h
 case rangeFunc f ps x y=>split at h<;>simp at h
theorem qE{code:Code}{r:bx}{c d:AC}(hs:c8 code=false)(h:aE P code=.cond r c d):∃q x y,code=.cond q x y∧dr q=some r∧aE P x=c∧aE P y=d:=by
 cases code<;>simp[aE,c8] at h hs
 case region id os draw=>
  rcases gJ (P:=P) (os:=os) (draw:=draw) with⟨l,hl⟩|⟨l,wn,hl⟩|hl<;>rw[hl] at h<;>simp at h
 case cond q x y=>
  split at h
  ·rename_i r' hr;simp only[AC.cond.injEq] at h;exact⟨q,x,y,rfl,by rw[hr,h.1],h.2.1,h.2.2⟩
  ·simp at h
 case rangeFunc f ps x y=>split at h<;>simp at h
theorem jd{code:Code}{id:Nat}{c:AC}(hs:c8 code=false)(h:aE P code=.block id c):∃x,code=.block id x∧aE P x=c:=by
 cases code<;>simp[aE,c8] at h hs
 case region id os draw=>
  rcases gJ (P:=P) (os:=os) (draw:=draw) with⟨l,hl⟩|⟨l,wn,hl⟩|hl<;>rw[hl] at h<;>simp at h
 case cond c x y=>split at h<;>simp at h
 case block i x=>exact⟨x,by rw[h.1],h.2⟩
 case rangeFunc f ps x y=>split at h<;>simp at h
theorem qG{code:Code}{c:AC}(hs:c8 code=false)(h:aE P code=.loop c):∃x,code=.loop x∧aE P x=c:=by
 cases code<;>simp[aE,c8] at h hs
 case region id os draw=>
  rcases gJ (P:=P) (os:=os) (draw:=draw) with⟨l,hl⟩|⟨l,wn,hl⟩|hl<;>rw[hl] at h<;>simp at h
 case cond c x y=>split at h<;>simp at h
 case loop x=>exact⟨x,rfl,h⟩
 case rangeFunc f ps x y=>split at h<;>simp at h
theorem xj{code:Code}{id:Nat}(hs:c8 code=false)(h:aE P code=.exit id):code=.exit id:=by
 cases code<;>simp[aE,c8] at h hs
 case region id os draw=>
  rcases gJ (P:=P) (os:=os) (draw:=draw) with⟨l,hl⟩|⟨l,wn,hl⟩|hl<;>rw[hl] at h<;>simp at h
 case cond c x y=>split at h<;>simp at h
 case exit i=>rw[h]
 case rangeFunc f ps x y=>split at h<;>simp at h
theorem y5{code:Code}(hs:c8 code=false)(h:aE P code=.ret):code=.ret:=by
 cases code<;>simp[aE,c8] at h hs
 case region id os draw=>
  rcases gJ (P:=P) (os:=os) (draw:=draw) with⟨l,hl⟩|⟨l,wn,hl⟩|hl<;>rw[hl] at h<;>simp at h
 case cond c x y=>split at h<;>simp at h
 case ret=>rfl
 case rangeFunc f ps x y=>split at h<;>simp at h
theorem dS{code:Code}{l:List bp}(hs:c8 code=false)(h:aE P code=.ops l):∃id os,code=.region id os false∧os.toList.map (bE P os)=l:=by
 cases code<;>simp[aE,c8] at h hs
 case region id os draw=>
  obtain⟨rfl,h2⟩:=C0 h;exact⟨id,os,rfl,h2⟩
 case cond c x y=>split at h<;>simp at h
 case rangeFunc f ps x y=>split at h<;>simp at h
theorem xk{code:Code}(hs:c8 code=false)(h:aE P code=.skip):code=.skip∨∃l,code=.label l:=by
 cases code<;>simp[aE,c8] at h hs
 case region id os draw=>
  rcases gJ (P:=P) (os:=os) (draw:=draw) with⟨l,hl⟩|⟨l,wn,hl⟩|hl<;>rw[hl] at h<;>simp at h
 case skip=>exact .inl rfl
 case label l=>exact .inr ⟨l,rfl⟩
 case cond c x y=>split at h<;>simp at h
 case rangeFunc f ps x y=>split at h<;>simp at h
theorem oL{code:Code}{r:bx}{ps:List Nat}{c d:AC}(hs:c8 code=false)(h:aE P code=.rangeFunc r ps c d):
  ∃g qs x y,code=.rangeFunc g qs x y∧dr g=some r∧qs.toList=ps∧aE P x=c∧aE P y=d:=by
 cases code<;>simp[aE,c8] at h hs
 case region id os draw=>
  rcases gJ (P:=P) (os:=os) (draw:=draw) with⟨l,hl⟩|⟨l,wn,hl⟩|hl<;>rw[hl] at h<;>simp at h
 case cond c x y=>split at h<;>simp at h
 case rangeFunc g qs x y=>
  split at h
  ·rename_i r' hr;simp only[AC.rangeFunc.injEq] at h;exact⟨g,qs,x,y,rfl,by rw[hr,h.1],h.2.1,h.2.2.1,h.2.2.2⟩
  ·simp at h
theorem Iw:bD P H0 rd .skip e h .normal e h:=by
 refine cL fun code hs hc N hN ro hro ρ D w a W0 n tl hi he hm hW=>?_;rcases xk hs hc with rfl|⟨l,rfl⟩
 ·exact wpIn_skip (qj rfl hi he hm)
 ·exact wpIn_label (qj rfl hi he hm)
theorem Is{id:Nat}:bD P H0 rd (.exit id) e h (.exit id) e h:=by
 refine cL fun code hs hc N hN ro hro ρ D w a W0 n tl hi he hm hW=>?_;rw[xj hs hc];exact wpIn_exit (qj rfl hi he hm)
theorem KD:bD P H0 rd .ret e h .ret e h:=by
 refine cL fun code hs hc N hN ro hro ρ D w a W0 n tl hi he hm hW=>?_;rw[y5 hs hc];exact wpIn_ret (qj rfl hi he hm)
theorem KC{l:List bp}{tr:List aK}(j8:OT P H0 l e h tr e' h'):bD P H0 rd (.ops l) e h .normal e' h':=by
 refine cL fun code hs hc N hN ro hro ρ D w a W0 n tl hi he hm hW=>?_;obtain⟨id,os,rfl,hos⟩:=dS hs hc;refine wpIn_region_list ?_;refine nP j8 hos hN hi he ?_;intro ρ' w' a' g1 g2 g3 g4;exact⟨ρ',rfl,g1,g2,g3,by rw[g4];exact hm.ext hi.lt g2,fun _=>g4⟩
theorem It{l l2:List bp}{i0:bp}{tr:List aK}{v:AV}{h2:Heap}(j8:OT P H0 l e h tr e' h')(hw0:bO i0 e'=true)(hop:i0.op≠.bad∧mo P H0 i0.op (i0.args.map e'.ev) h' v h2):bD P H0 rd (.ops (l++i0::l2)) e h (.panic v) e' h2:=by
 refine cL fun code hs hc N hN ro hro ρ D w a W0 n tl hi he hm hW=>?_;obtain⟨id,os,rfl,hos⟩:=dS hs hc;refine wpIn_region_list ?_;have Qh:cY N (l++i0::l2)=true:=hN;rw[qc,Bool.and_eq_true] at Qh;refine jM j8 hw0 hop.1 hop.2 hos Qh.1 hi he ?_;intro ρ' w' a' g1 g2 g3 g4 g5;exact⟨ρ',⟨rfl,g5⟩,g1,g2,g3,by rw[g4];exact hm.ext hi.lt g2,fun _=>g4⟩
theorem Iu{c d:AC}{e1:Env}{x:AX}(tn:bD P H0 rd c e h .normal e1 h1)(N5:bD P H0 rd d e1 h1 x e' h'):bD P H0 rd (.seq c d) e h x e' h':=by
 refine cL fun code hs hc N hN ro hro ρ D w a W0 n tl hi he hm hW=>?_;obtain⟨y,z,rfl,hy,hz⟩:=fo hs hc;simp only[codeOk,Bool.and_eq_true] at hN;refine wpIn_seq ?_;refine Code.wpIn_mono ?_ (tn y hy N hN.1 ro hro ρ D w a W0 n tl hi he hm hW);rintro ex a' w' ⟨ρ',hx,g1,g2,g3,g4,g5⟩;have hx:ex=.normal:=hx;subst hx;show z.wpIn (FW ro) n P _ a' w';refine Code.wpIn_mono ?_ (N5 z hz N hN.2 ro hro ρ' _ w' a' W0 n tl g1 g3 g4 (Nat.le_trans hW g2.size));intro ex2 a2 w2 hp;refine nQ hi g2 (fun hn=>?_) hp;simp only[aU,Bool.and_eq_true] at hn;exact⟨hn.2,g5 hn.1⟩
theorem Iv{c d:AC}{x:AX}(tn:bD P H0 rd c e h x e' h')(hx:x.bB=false):bD P H0 rd (.seq c d) e h x e' h':=by
 refine cL fun code hs hc N hN ro hro ρ D w a W0 n tl hi he hm hW=>?_;obtain⟨y,z,rfl,hy,hz⟩:=fo hs hc;simp only[codeOk,Bool.and_eq_true] at hN;refine wpIn_seq ?_;refine Code.wpIn_mono ?_ (tn y hy N hN.1 ro hro ρ D w a W0 n tl hi he hm hW);intro ex a' w' hp;have B3:lX P H0 (aU (.seq c d)) a.defers tl W0 ρ D h w N x e' h' ex a' w':=qi (fun hn=>by simp only[aU,Bool.and_eq_true] at hn;exact hn.1) hp;have:=(uM hx hp).1;cases ex with
 |normal=>exact absurd rfl this
 |_=>exact B3
theorem Ip{r:bx}{c d:AC}{t:Bool}{x:AX}(ht:e.ev r=.bool t)(tn:bD P H0 rd (bif t then c else d) e h x e' h'):bD P H0 rd (.cond r c d) e h x e' h':=by
 refine cL fun code hs hc N hN ro hro ρ D w a W0 n tl hi he hm hW=>?_;obtain⟨q,y,z,rfl,hq,hy,hz⟩:=qE hs hc;simp only[codeOk,Bool.and_eq_true] at hN;have hr:=(aG he hq).1;rw[ht] at hr;refine wpIn_cond (t:=t) (by simpa[real] using hr) ?_;cases t with
 |true=>exact Code.wpIn_mono (fun ex a' w' hp=>qi (fun hn=>by simp only[aU,Bool.and_eq_true] at hn;exact hn.1) hp) (tn y hy N hN.1 ro hro ρ D w a W0 n tl hi he hm hW)
 |false=>exact Code.wpIn_mono (fun ex a' w' hp=>qi (fun hn=>by simp only[aU,Bool.and_eq_true] at hn;exact hn.2) hp) (tn z hz N hN.2 ro hro ρ D w a W0 n tl hi he hm hW)
theorem C2{id:Nat}{c:AC}(tn:bD P H0 rd c e h (.exit id) e' h'):bD P H0 rd (.block id c) e h .normal e' h':=by
 refine cL fun code hs hc N hN ro hro ρ D w a W0 n tl hi he hm hW=>?_;obtain⟨y,rfl,hy⟩:=jd hs hc;refine wpIn_block ?_;refine Code.wpIn_mono ?_ (tn y hy N hN ro hro ρ D w a W0 n tl hi he hm hW);rintro ex a' w' ⟨ρ',hx,rest⟩;have hx:ex=.exit id:=hx;subst hx;simp only[Exit.inBlock,if_true];exact⟨ρ',rfl,rest⟩
theorem C1{id:Nat}{c:AC}{x:AX}(tn:bD P H0 rd c e h x e' h')(hne:∀i,x=.exit i→i≠id):bD P H0 rd (.block id c) e h x e' h':=by
 refine cL fun code hs hc N hN ro hro ρ D w a W0 n tl hi he hm hW=>?_;obtain⟨y,rfl,hy⟩:=jd hs hc;refine wpIn_block ?_;refine Code.wpIn_mono ?_ (tn y hy N hN ro hro ρ D w a W0 n tl hi he hm hW);rintro ex a' w' ⟨ρ',hx,rest⟩;cases x with
 |exit i=>
  have hx:ex=.exit i:=hx;subst hx;simp only[Exit.inBlock,if_neg (hne i rfl)];exact⟨ρ',rfl,rest⟩
 |normal=>have hx:ex=.normal:=hx;subst hx;exact⟨ρ',rfl,rest⟩
 |ret=>have hx:ex=.ret:=hx;subst hx;exact⟨ρ',rfl,rest⟩
 |panic v=>obtain⟨hx,hd⟩:=hx;subst hx;exact⟨ρ',⟨rfl,hd⟩,rest⟩
theorem O3{c:AC}{e1:Env}{x:AX}(tn:bD P H0 rd c e h .normal e1 h1)(N5:lW P H0 rd c e1 h1 x e' h'):lW P H0 rd c e h x e' h':=by
 intro code hc N hN ro hro ρ D w a W0 n tl hi he hm hW;refine mF ?_;refine Code.wpIn_mono ?_ (tn code hc N hN ro hro ρ D w a W0 n tl hi he hm hW);rintro ex a' w' ⟨ρ',hx,g1,g2,g3,g4,g5⟩;have hx:ex=.normal:=hx;subst hx;show rJ (FW ro) n P code _ a' w';have:=N5 code hc N hN ro hro ρ' _ w' a' W0 n tl g1 g3 g4 (Nat.le_trans hW g2.size);intro b k cs vJ hb hr;obtain⟨e2,a2,w2,hp,gk⟩:=this b k cs vJ hb hr;exact⟨e2,a2,w2,nQ hi g2 (fun hn=>⟨hn,g5 hn⟩) hp,gk⟩
theorem O4{c:AC}{x:AX}(tn:bD P H0 rd c e h x e' h')(hx:x.bB=false):lW P H0 rd c e h x e' h':=by
 intro code hc N hN ro hro ρ D w a W0 n tl hi he hm hW;refine mF ?_;refine Code.wpIn_mono ?_ (tn code hc N hN ro hro ρ D w a W0 n tl hi he hm hW);intro ex a' w' hp;have:=(uM hx hp).1;cases ex with
 |normal=>exact absurd rfl this
 |_=>exact hp
theorem BD{c:AC}{x:AX}(tn:lW P H0 rd c e h x e' h'):bD P H0 rd (.loop c) e h x e' h':=by
 refine cL fun code hs hc N hN ro hro ρ D w a W0 n tl hi he hm hW=>?_;obtain⟨y,rfl,hy⟩:=qG hs hc;exact pM (tn y hy N hN ro hro ρ D w a W0 n tl hi he hm hW)
end
end Ads
end Go.Proofs.YtmnolnoeibhjgaaGreat
