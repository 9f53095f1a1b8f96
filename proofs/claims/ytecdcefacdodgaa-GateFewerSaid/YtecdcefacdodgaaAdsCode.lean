/-
  What big steps mean in the model: code.
-/
import Derived.Test.YtecdcefacdodgaaAdsSem
set_option linter.unusedSimpArgs false
set_option linter.unusedVariables false
namespace Go.Proofs.Ytecdcefacdodgaa
namespace Ads
section
variable {P:Program} {H0 W0:Nat} {ρ ρ':cn} {D D':Dom} {h h' h1:Heap} {w w':World} {N n:Nat} {env e e':Env} {a:Act} {ro:Option Nat} {rd:Bool}
variable {F:Fence} {Q:Exit→Act→World→Prop}
theorem lY{c:Code}(hq:∀l a w,¬Q (.goto l) a w)(h:c.wpIn F n P Q a w):(Code.scope c).wpIn F n P Q a w:=by
 intro b k cs hro hb hr;obtain⟨e,a₁,w₁,mZ,fN⟩:=h b (.inScope c::k) cs hro hb hr;have s0:step P (lone (b.atR a (.code (.scope c)::k)) cs w)=.next (lone (b.atR a (.code c::.inScope c::k)) cs w):=
  step_lone_go (by simp[stepG,stepG.exec,Frame.atR])
 have s1:∀(a:Act) (w:World),step P (lone (b.atR a (.inScope c::k)) cs w)=.next (lone (b.atR a k) cs w):=fun a w=>
  step_lone_go (by simp[stepG,stepG.exec,Frame.atR])
 have f0:(lone (b.atR a (.code (.scope c)::k)) cs w).fenced P F:=fenced_calm hb hr rfl;have hs:StepsIn (Machine.fenced P F) P (lone (b.atR a (.code (.scope c)::k)) cs w) (lone (b.atR a (.code c::.inScope c::k)) cs w):=.one f0 s0;cases e with
 |normal=>exact⟨.normal,a₁,w₁,mZ,hs.trans (StepsIn.trans fN (.one (fenced_calm (fr:=b.atR a₁ (.inScope c::k)) hb hr rfl) (s1 a₁ w₁)))⟩
 |exit id=>
  refine⟨.exit id,a₁,w₁,mZ,fun k' hk=>hs.trans (fN.1 k' (by simp[exitTo,hk])),fun hr hk=>?_⟩;obtain⟨k₁,h1,h2⟩:=fN.2 hr (by simp[exitTo,hk]);exact⟨k₁,h1,hs.trans h2⟩
 |goto l=>exact absurd mZ (hq l a₁ w₁)
 |ret=>exact⟨_,a₁,w₁,mZ,fun hr=>let⟨todo,h1⟩:=fN.1 hr;⟨todo,hs.trans h1⟩,fun hr=>let⟨k₁,h1⟩:=fN.2 hr;⟨k₁,hs.trans h1⟩⟩
 |panic ch=>obtain⟨todo,h1⟩:=fN;exact⟨_,a₁,w₁,mZ,todo,hs.trans h1⟩
 |outgrown=>exact⟨_,a₁,w₁,mZ,fN.imp id (Outgrown.of_steps hs.steps)⟩
theorem mP{c:Code}(h:c.wpIn F n P (Exit.then (rK F n P c Q) Q) a w):rK F n P c Q a w:=by
 intro b k cs hro hb hr;obtain⟨e,a₁,w₁,hq,fN⟩:=h b (.inLoop c::k) cs hro hb hr;cases e with
 |normal=>
  obtain⟨e₂,a₂,w₂,R9,L2⟩:=hq b k cs hro hb hr;have s1:step P (lone (b.atR a₁ (.inLoop c::k)) cs w₁)=.next (lone (b.atR a₁ (.code c::.inLoop c::k)) cs w₁):=
   step_lone_go (by simp[stepG,stepG.exec,Frame.atR])
  exact⟨e₂,a₂,w₂,R9,.of_steps (StepsIn.trans fN (.one (fenced_calm (fr:=b.atR a₁ (.inLoop c::k)) hb hr rfl) s1)) L2⟩
 |exit id=>exact⟨_,a₁,w₁,hq,.pass (x:=.inLoop c) rfl (fun _ _=>.inl (by simp)) fN⟩
 |goto l=>exact⟨_,a₁,w₁,hq,.pass (x:=.inLoop c) rfl (fun _ _=>.inl (by simp)) fN⟩
 |ret=>exact⟨_,a₁,w₁,hq,.pass (x:=.inLoop c) rfl (fun _ _=>.inl (by simp)) fN⟩
 |panic ch=>exact⟨_,a₁,w₁,hq,.pass (x:=.inLoop c) rfl (fun _ _=>.inl (by simp)) fN⟩
 |outgrown=>exact⟨_,a₁,w₁,hq,.pass (x:=.inLoop c) rfl (fun _ _=>.inl (by simp)) fN⟩
theorem pM{c:Code}(h:rK F n P c Q a w):(Code.loop c).wpIn F n P Q a w:=by
 intro b k cs hro hb hr;obtain⟨e,a₁,w₁,hq,fN⟩:=h b k cs hro hb hr;have s0:step P (lone (b.atR a (.code (.loop c)::k)) cs w)=.next (lone (b.atR a (.code c::.inLoop c::k)) cs w):=
  step_lone_go (by simp[stepG,stepG.exec,Frame.atR])
 exact⟨e,a₁,w₁,hq,.of_steps (.one (fenced_calm hb hr rfl) s0) fN⟩
def cS:Code→Bool
 |.scope _=>true
 |_=>false
theorem cr{c:AC}{x:AX}(Is:∀(code:Code),cS code=false→ay P code=c→∀(N:Nat),codeOk N c=true→∀(ro:Option Nat),ro.isSome=rd→∀(ρ:cn) (D:Dom) (w:World) (a:Act) (W0 n:Nat) (tl:List Deferred),
  Inv P H0 ρ D h w→bz ρ D N e a→iG tl W0 ρ D h w a.defers→W0≤w.heap.size→code.wpIn (FW ro) n P (l8 P H0 (aR c) a.defers tl W0 ρ D h w N x e' h') a w):bu P H0 rd c e h x e' h':=by
 intro code;induction code with
 |scope c' ih=>
  intro hc N hN ro hro ρ D w a W0 n tl hi he hm hW;refine lY ?_ (ih (by simpa[ay] using hc) N hN ro hro ρ D w a W0 n tl hi he hm hW);intro l a w hh;obtain⟨ρ',hx,_⟩:=hh;cases x<;>simp[He] at hx
 |_=>intro hc N hN ro hro ρ D w a W0 n tl hi he hm hW;exact Is _ rfl hc N hN ro hro ρ D w a W0 n tl hi he hm hW
theorem DY{os:Array Oper}{draw:Bool}{l:List bh}(h:fZ P os draw=.ops l):draw=false∧os.toList.map (bw P os)=l:=by
 unfold fZ at h;cases draw with
 |false=>simp at h;exact⟨rfl,h⟩
 |true=>simp only[Bool.not_true,Bool.false_eq_true,if_false] at h;split at h<;>simp at h
theorem gx{os:Array Oper}{draw:Bool}:(∃l,fZ P os draw=.ops l)∨(∃l win,fZ P os draw=.cm l win)∨fZ P os draw=.bad:=by
 unfold fZ;cases draw with
 |false=>exact .inl ⟨_,by simp;rfl⟩
 |true=>
  simp only[Bool.not_true,Bool.false_eq_true,if_false];split
  ·exact .inr (.inl ⟨_,_,rfl⟩)
  ·exact .inr (.inr rfl)
theorem qj{nr:Bool}{tl:List Deferred}{x:AX}{ex:Exit}(hx:He ρ (grow D h.next h.next) x ex)(hi:Inv P H0 ρ D h w)(he:bz ρ D N e a)(hm:iG tl W0 ρ D h w a.defers):l8 P H0 nr a.defers tl W0 ρ D h w N x e h ex a w:=by
 refine⟨ρ,hx,?_⟩;rw[aY];exact⟨hi,Ext.refl _ _ _ _,he,hm,fun _=>rfl⟩
theorem nP{nr SE:Bool}{ds W2:List Deferred}{tl:List Deferred}{x:AX}{w1:World}{pP:cn}(hi:Inv P H0 ρ D h w)(x1:Ext ρ D h w pP h1 w1){ex:Exit}{a2:Act}{w2:World}(GY:nr=true→SE=true∧W2=ds)
  (hp:l8 P H0 SE W2 tl W0 pP (grow D h.next h1.next) h1 w1 N x e' h' ex a2 w2):l8 P H0 nr ds tl W0 ρ D h w N x e' h' ex a2 w2:=by
 obtain⟨ir,hx,g1,g2,g3,g4,g5⟩:=hp;have hn:=g2.next;rw[dh D x1.next hn] at hx g1 g3 g4;exact⟨ir,hx,g1,Ext.trans hi.lt x1 g2,g3,g4,fun h=>(g5 (GY h).1).trans (GY h).2⟩
theorem qi{nr SE:Bool}{ds tl:List Deferred}{x:AX}{ex:Exit}{a2:Act}{w2:World}(GY:nr=true→SE=true)(hp:l8 P H0 SE ds tl W0 ρ D h w N x e' h' ex a2 w2):l8 P H0 nr ds tl W0 ρ D h w N x e' h' ex a2 w2:=by
 obtain⟨ir,hx,g1,g2,g3,g4,g5⟩:=hp;exact⟨ir,hx,g1,g2,g3,g4,fun h=>g5 (GY h)⟩
theorem va{nr:Bool}{ds tl:List Deferred}{x:AX}{ex:Exit}{a2:Act}{w2:World}(hx:x.bx=false)(hp:l8 P H0 nr ds tl W0 ρ D h w N x e' h' ex a2 w2):ex≠.normal∧(∀l,ex≠.goto l)∧ex≠.outgrown:=by
 obtain⟨ir,hx',_⟩:=hp;cases x with
 |normal=>simp[AX.bx] at hx
 |exit id=>have h:ex=.exit id:=hx';subst h;exact⟨by simp,by simp,by simp⟩
 |ret=>have h:ex=.ret:=hx';subst h;exact⟨by simp,by simp,by simp⟩
 |panic v=>obtain⟨h,_⟩:=hx';subst h;exact⟨by simp,by simp,by simp⟩
theorem eT{code:Code}{c d:AC}(hs:cS code=false)(h:ay P code=.seq c d):∃x y,code=.seq x y∧ay P x=c∧ay P y=d:=by
 cases code<;>simp[ay,cS] at h hs
 case region id os draw=>
  rcases gx (P:=P) (os:=os) (draw:=draw) with⟨l,hl⟩|⟨l,wn,hl⟩|hl<;>rw[hl] at h<;>simp at h
 case seq x y=>exact⟨x,y,rfl,h.1,h.2⟩
 case cond c x y=>split at h<;>simp at h
 case rangeFunc f ps x y=>split at h<;>simp at h
theorem qG{code:Code}{r:bA}{c d:AC}(hs:cS code=false)(h:ay P code=.cond r c d):∃q x y,code=.cond q x y∧cW q=some r∧ay P x=c∧ay P y=d:=by
 cases code<;>simp[ay,cS] at h hs
 case region id os draw=>
  rcases gx (P:=P) (os:=os) (draw:=draw) with⟨l,hl⟩|⟨l,wn,hl⟩|hl<;>rw[hl] at h<;>simp at h
 case cond q x y=>
  split at h
  ·rename_i r' hr;simp only[AC.cond.injEq] at h;exact⟨q,x,y,rfl,by rw[hr,h.1],h.2.1,h.2.2⟩
  ·simp at h
 case rangeFunc f ps x y=>split at h<;>simp at h
theorem iK{code:Code}{id:Nat}{c:AC}(hs:cS code=false)(h:ay P code=.block id c):∃x,code=.block id x∧ay P x=c:=by
 cases code<;>simp[ay,cS] at h hs
 case region id os draw=>
  rcases gx (P:=P) (os:=os) (draw:=draw) with⟨l,hl⟩|⟨l,wn,hl⟩|hl<;>rw[hl] at h<;>simp at h
 case cond c x y=>split at h<;>simp at h
 case block i x=>exact⟨x,by rw[h.1],h.2⟩
 case rangeFunc f ps x y=>split at h<;>simp at h
theorem qI{code:Code}{c:AC}(hs:cS code=false)(h:ay P code=.loop c):∃x,code=.loop x∧ay P x=c:=by
 cases code<;>simp[ay,cS] at h hs
 case region id os draw=>
  rcases gx (P:=P) (os:=os) (draw:=draw) with⟨l,hl⟩|⟨l,wn,hl⟩|hl<;>rw[hl] at h<;>simp at h
 case cond c x y=>split at h<;>simp at h
 case loop x=>exact⟨x,rfl,h⟩
 case rangeFunc f ps x y=>split at h<;>simp at h
theorem xD{code:Code}{id:Nat}(hs:cS code=false)(h:ay P code=.exit id):code=.exit id:=by
 cases code<;>simp[ay,cS] at h hs
 case region id os draw=>
  rcases gx (P:=P) (os:=os) (draw:=draw) with⟨l,hl⟩|⟨l,wn,hl⟩|hl<;>rw[hl] at h<;>simp at h
 case cond c x y=>split at h<;>simp at h
 case exit i=>rw[h]
 case rangeFunc f ps x y=>split at h<;>simp at h
theorem zE{code:Code}(hs:cS code=false)(h:ay P code=.ret):code=.ret:=by
 cases code<;>simp[ay,cS] at h hs
 case region id os draw=>
  rcases gx (P:=P) (os:=os) (draw:=draw) with⟨l,hl⟩|⟨l,wn,hl⟩|hl<;>rw[hl] at h<;>simp at h
 case cond c x y=>split at h<;>simp at h
 case ret=>rfl
 case rangeFunc f ps x y=>split at h<;>simp at h
theorem dD{code:Code}{l:List bh}(hs:cS code=false)(h:ay P code=.ops l):∃id os,code=.region id os false∧os.toList.map (bw P os)=l:=by
 cases code<;>simp[ay,cS] at h hs
 case region id os draw=>
  obtain⟨rfl,h2⟩:=DY h;exact⟨id,os,rfl,h2⟩
 case cond c x y=>split at h<;>simp at h
 case rangeFunc f ps x y=>split at h<;>simp at h
theorem xE{code:Code}(hs:cS code=false)(h:ay P code=.skip):code=.skip∨∃l,code=.label l:=by
 cases code<;>simp[ay,cS] at h hs
 case region id os draw=>
  rcases gx (P:=P) (os:=os) (draw:=draw) with⟨l,hl⟩|⟨l,wn,hl⟩|hl<;>rw[hl] at h<;>simp at h
 case skip=>exact .inl rfl
 case label l=>exact .inr ⟨l,rfl⟩
 case cond c x y=>split at h<;>simp at h
 case rangeFunc f ps x y=>split at h<;>simp at h
theorem oG{code:Code}{r:bA}{ps:List Nat}{c d:AC}(hs:cS code=false)(h:ay P code=.rangeFunc r ps c d):
  ∃g qs x y,code=.rangeFunc g qs x y∧cW g=some r∧qs.toList=ps∧ay P x=c∧ay P y=d:=by
 cases code<;>simp[ay,cS] at h hs
 case region id os draw=>
  rcases gx (P:=P) (os:=os) (draw:=draw) with⟨l,hl⟩|⟨l,wn,hl⟩|hl<;>rw[hl] at h<;>simp at h
 case cond c x y=>split at h<;>simp at h
 case rangeFunc g qs x y=>
  split at h
  ·rename_i r' hr;simp only[AC.rangeFunc.injEq] at h;exact⟨g,qs,x,y,rfl,by rw[hr,h.1],h.2.1,h.2.2.1,h.2.2.2⟩
  ·simp at h
theorem JZ:bu P H0 rd .skip e h .normal e h:=by
 refine cr fun code hs hc N hN ro hro ρ D w a W0 n tl hi he hm hW=>?_;rcases xE hs hc with rfl|⟨l,rfl⟩
 ·exact wpIn_skip (qj rfl hi he hm)
 ·exact wpIn_label (qj rfl hi he hm)
theorem JV{id:Nat}:bu P H0 rd (.exit id) e h (.exit id) e h:=by
 refine cr fun code hs hc N hN ro hro ρ D w a W0 n tl hi he hm hW=>?_;rw[xD hs hc];exact wpIn_exit (qj rfl hi he hm)
theorem MQ:bu P H0 rd .ret e h .ret e h:=by
 refine cr fun code hs hc N hN ro hro ρ D w a W0 n tl hi he hm hW=>?_;rw[zE hs hc];exact wpIn_ret (qj rfl hi he hm)
theorem MP{l:List bh}{tr:List aG}(j7:OT P H0 l e h tr e' h'):bu P H0 rd (.ops l) e h .normal e' h':=by
 refine cr fun code hs hc N hN ro hro ρ D w a W0 n tl hi he hm hW=>?_;obtain⟨id,os,rfl,hos⟩:=dD hs hc;refine wpIn_region_list ?_;refine nO j7 hos hN hi he ?_;intro ρ' w' a' g1 g2 g3 g4;exact⟨ρ',rfl,g1,g2,g3,by rw[g4];exact hm.ext hi.lt g2,fun _=>g4⟩
theorem JW{l l2:List bh}{i0:bh}{tr:List aG}{v:AV}{h2:Heap}(j7:OT P H0 l e h tr e' h')(hw0:bF i0 e'=true)(hop:i0.op≠.bad∧mF P H0 i0.op (i0.args.map e'.ev) h' v h2):bu P H0 rd (.ops (l++i0::l2)) e h (.panic v) e' h2:=by
 refine cr fun code hs hc N hN ro hro ρ D w a W0 n tl hi he hm hW=>?_;obtain⟨id,os,rfl,hos⟩:=dD hs hc;refine wpIn_region_list ?_;have Qn:cP N (l++i0::l2)=true:=hN;rw[qe,Bool.and_eq_true] at Qn;refine jI j7 hw0 hop.1 hop.2 hos Qn.1 hi he ?_;intro ρ' w' a' g1 g2 g3 g4 g5;exact⟨ρ',⟨rfl,g5⟩,g1,g2,g3,by rw[g4];exact hm.ext hi.lt g2,fun _=>g4⟩
theorem JX{c d:AC}{e1:Env}{x:AX}(tE:bu P H0 rd c e h .normal e1 h1)(Ow:bu P H0 rd d e1 h1 x e' h'):bu P H0 rd (.seq c d) e h x e' h':=by
 refine cr fun code hs hc N hN ro hro ρ D w a W0 n tl hi he hm hW=>?_;obtain⟨y,z,rfl,hy,hz⟩:=eT hs hc;simp only[codeOk,Bool.and_eq_true] at hN;refine wpIn_seq ?_;refine Code.wpIn_mono ?_ (tE y hy N hN.1 ro hro ρ D w a W0 n tl hi he hm hW);rintro ex a' w' ⟨ρ',hx,g1,g2,g3,g4,g5⟩;have hx:ex=.normal:=hx;subst hx;show z.wpIn (FW ro) n P _ a' w';refine Code.wpIn_mono ?_ (Ow z hz N hN.2 ro hro ρ' _ w' a' W0 n tl g1 g3 g4 (Nat.le_trans hW g2.size));intro ex2 a2 w2 hp;refine nP hi g2 (fun hn=>?_) hp;simp only[aR,Bool.and_eq_true] at hn;exact⟨hn.2,g5 hn.1⟩
theorem JY{c d:AC}{x:AX}(tE:bu P H0 rd c e h x e' h')(hx:x.bx=false):bu P H0 rd (.seq c d) e h x e' h':=by
 refine cr fun code hs hc N hN ro hro ρ D w a W0 n tl hi he hm hW=>?_;obtain⟨y,z,rfl,hy,hz⟩:=eT hs hc;simp only[codeOk,Bool.and_eq_true] at hN;refine wpIn_seq ?_;refine Code.wpIn_mono ?_ (tE y hy N hN.1 ro hro ρ D w a W0 n tl hi he hm hW);intro ex a' w' hp;have Qv:l8 P H0 (aR (.seq c d)) a.defers tl W0 ρ D h w N x e' h' ex a' w':=qi (fun hn=>by simp only[aR,Bool.and_eq_true] at hn;exact hn.1) hp;have:=(va hx hp).1;cases ex with
 |normal=>exact absurd rfl this
 |_=>exact Qv
theorem JT{r:bA}{c d:AC}{t:Bool}{x:AX}(ht:e.ev r=.bool t)(tE:bu P H0 rd (bif t then c else d) e h x e' h'):bu P H0 rd (.cond r c d) e h x e' h':=by
 refine cr fun code hs hc N hN ro hro ρ D w a W0 n tl hi he hm hW=>?_;obtain⟨q,y,z,rfl,hq,hy,hz⟩:=qG hs hc;simp only[codeOk,Bool.and_eq_true] at hN;have hr:=(aD he hq).1;rw[ht] at hr;refine wpIn_cond (t:=t) (by simpa[real] using hr) ?_;cases t with
 |true=>exact Code.wpIn_mono (fun ex a' w' hp=>qi (fun hn=>by simp only[aR,Bool.and_eq_true] at hn;exact hn.1) hp) (tE y hy N hN.1 ro hro ρ D w a W0 n tl hi he hm hW)
 |false=>exact Code.wpIn_mono (fun ex a' w' hp=>qi (fun hn=>by simp only[aR,Bool.and_eq_true] at hn;exact hn.2) hp) (tE z hz N hN.2 ro hro ρ D w a W0 n tl hi he hm hW)
theorem D5{id:Nat}{c:AC}(tE:bu P H0 rd c e h (.exit id) e' h'):bu P H0 rd (.block id c) e h .normal e' h':=by
 refine cr fun code hs hc N hN ro hro ρ D w a W0 n tl hi he hm hW=>?_;obtain⟨y,rfl,hy⟩:=iK hs hc;refine wpIn_block ?_;refine Code.wpIn_mono ?_ (tE y hy N hN ro hro ρ D w a W0 n tl hi he hm hW);rintro ex a' w' ⟨ρ',hx,rest⟩;have hx:ex=.exit id:=hx;subst hx;simp only[Exit.inBlock,if_true];exact⟨ρ',rfl,rest⟩
theorem D4{id:Nat}{c:AC}{x:AX}(tE:bu P H0 rd c e h x e' h')(hne:∀i,x=.exit i→i≠id):bu P H0 rd (.block id c) e h x e' h':=by
 refine cr fun code hs hc N hN ro hro ρ D w a W0 n tl hi he hm hW=>?_;obtain⟨y,rfl,hy⟩:=iK hs hc;refine wpIn_block ?_;refine Code.wpIn_mono ?_ (tE y hy N hN ro hro ρ D w a W0 n tl hi he hm hW);rintro ex a' w' ⟨ρ',hx,rest⟩;cases x with
 |exit i=>
  have hx:ex=.exit i:=hx;subst hx;simp only[Exit.inBlock,if_neg (hne i rfl)];exact⟨ρ',rfl,rest⟩
 |normal=>have hx:ex=.normal:=hx;subst hx;exact⟨ρ',rfl,rest⟩
 |ret=>have hx:ex=.ret:=hx;subst hx;exact⟨ρ',rfl,rest⟩
 |panic v=>obtain⟨hx,hd⟩:=hx;subst hx;exact⟨ρ',⟨rfl,hd⟩,rest⟩
theorem PA{c:AC}{e1:Env}{x:AX}(tE:bu P H0 rd c e h .normal e1 h1)(Ow:l7 P H0 rd c e1 h1 x e' h'):l7 P H0 rd c e h x e' h':=by
 intro code hc N hN ro hro ρ D w a W0 n tl hi he hm hW;refine mP ?_;refine Code.wpIn_mono ?_ (tE code hc N hN ro hro ρ D w a W0 n tl hi he hm hW);rintro ex a' w' ⟨ρ',hx,g1,g2,g3,g4,g5⟩;have hx:ex=.normal:=hx;subst hx;show rK (FW ro) n P code _ a' w';have:=Ow code hc N hN ro hro ρ' _ w' a' W0 n tl g1 g3 g4 (Nat.le_trans hW g2.size);intro b k cs vV hb hr;obtain⟨e2,a2,w2,hp,fN⟩:=this b k cs vV hb hr;exact⟨e2,a2,w2,nP hi g2 (fun hn=>⟨hn,g5 hn⟩) hp,fN⟩
theorem PB{c:AC}{x:AX}(tE:bu P H0 rd c e h x e' h')(hx:x.bx=false):l7 P H0 rd c e h x e' h':=by
 intro code hc N hN ro hro ρ D w a W0 n tl hi he hm hW;refine mP ?_;refine Code.wpIn_mono ?_ (tE code hc N hN ro hro ρ D w a W0 n tl hi he hm hW);intro ex a' w' hp;have:=(va hx hp).1;cases ex with
 |normal=>exact absurd rfl this
 |_=>exact hp
theorem Ci{c:AC}{x:AX}(tE:l7 P H0 rd c e h x e' h'):bu P H0 rd (.loop c) e h x e' h':=by
 refine cr fun code hs hc N hN ro hro ρ D w a W0 n tl hi he hm hW=>?_;obtain⟨y,rfl,hy⟩:=qI hs hc;exact pM (tE y hy N hN ro hro ρ D w a W0 n tl hi he hm hW)
end
end Ads
end Go.Proofs.Ytecdcefacdodgaa
