/-
  What big steps mean in the model: a function that defers a closure which recovers.
-/
import Derived.Test.YtmnolnoeibhjgaaGreatAdsCall
import Derived.RecoverIn
set_option linter.unusedSimpArgs false
set_option linter.unusedVariables false
namespace Go.Proofs.YtmnolnoeibhjgaaGreat
namespace Ads
section
variable {P:Program} {H0 W0:Nat} {ρ ρ':cG} {D D':Dom} {h h' h1:Heap} {w w':World} {N n:Nat} {env e e':Env} {a:Act} {ro:Option Nat} {rd:Bool}
theorem rX{ops:Array Oper}{o:Oper}{i:bp}{as:List bx}(hc:bE P ops o=i)(hop:i.op=.bad)(has:i.args=as)(hl:as.length=4):uC o=as∧i.dst=o.dst:=by
 unfold bE at hc;simp only at hc;split at hc
 ·rename_i g op as' hg eE;subst hc;simp only at hop has;subst hop has;have:=Ge eE;omega
 ·subst hc;exact⟨has,rfl⟩
theorem Gh{ops:Array Oper}{o:Oper}{dst:Option Nat}{r:bx}(hc:bE P ops o=om dst r):o.dst=dst∧o.guard=none∧∃c f,o.op=.defer c∧c.callee=.value f∧c.args.toList=[]∧dr f=some r:=by
 obtain⟨h1,h2⟩:=rX (as:=[.c (.bool true),r,r,r]) hc rfl rfl rfl;refine⟨h2.symm,?_⟩;unfold uC at h1;split at h1
 ·rename_i c hg ho;split at h1
  ·rename_i f hcb hca;split at h1
   ·rename_i r' hr;simp only[List.cons.injEq,and_true,true_and] at h1;exact⟨hg,c,f,ho,hcb,hca,by rw[hr,h1.1]⟩
   ·simp at h1
  ·simp at h1
 ·split at h1
  ·simp at h1
  ·simp at h1
 ·simp at h1
theorem Kn{ops:Array Oper}{o:Oper}{t:Nat}(hc:bE P ops o=v9 t):o.dst=some t∧o.guard=none∧∃c,o.op=.call c∧c.callee=.builtin .recover:=by
 obtain⟨h1,h2⟩:=rX (as:=[.c (.bool false),.c (.bool false),.c (.bool false),.c (.bool false)]) hc rfl rfl rfl;refine⟨h2.symm,?_⟩;unfold uC at h1;split at h1
 ·split at h1
  ·split at h1
   ·simp at h1
   ·simp at h1
  ·simp at h1
 ·rename_i c hg ho;split at h1
  ·rename_i hcb;exact⟨hg,c,ho,hcb⟩
  ·simp at h1
 ·simp at h1
theorem uo{F:Fence}{Q:Exit→Act→List Frame→World→Prop}{cs:List Frame}{c:Code}(hq:∀l a cs w,¬Q (.goto l) a cs w)(h:c.wpSIn F n P Q a cs w):(Code.scope c).wpSIn F n P Q a cs w:=by
 intro b k XU hro hb hr;obtain⟨e,a₁,cs₁,w₁,hl,mS,gk⟩:=h b (.inScope c::k) XU hro hb hr;have s0:step P (lone (b.atR a (.code (.scope c)::k)) cs w)=.next (lone (b.atR a (.code c::.inScope c::k)) cs w):=
  step_lone_go (by simp[stepG,stepG.exec,Frame.atR])
 have s1:∀(a:Act) (cs:List Frame) (w:World),step P (lone (b.atR a (.inScope c::k)) cs w)=.next (lone (b.atR a k) cs w):=fun a cs w=>
  step_lone_go (by simp[stepG,stepG.exec,Frame.atR])
 have f0:(lone (b.atR a (.code (.scope c)::k)) cs w).fenced P F:=fenced_calm hb hr rfl;have hs:StepsIn (Machine.fenced P F) P (lone (b.atR a (.code (.scope c)::k)) cs w) (lone (b.atR a (.code c::.inScope c::k)) cs w):=.one f0 s0;cases e with
 |normal=>exact⟨.normal,a₁,cs₁,w₁,hl,mS,hs.trans (StepsIn.trans gk (.one (fenced_calm (fr:=b.atR a₁ (.inScope c::k)) hb (hl▸hr) rfl) (s1 a₁ cs₁ w₁)))⟩
 |exit id=>
  refine⟨.exit id,a₁,cs₁,w₁,hl,mS,fun k' hk=>hs.trans (gk.1 k' (by simp[exitTo,hk])),fun hr hk=>?_⟩;obtain⟨k₁,h1,h2⟩:=gk.2 hr (by simp[exitTo,hk]);exact⟨k₁,h1,hs.trans h2⟩
 |goto l=>exact absurd mS (hq l a₁ cs₁ w₁)
 |ret=>exact⟨_,a₁,cs₁,w₁,hl,mS,fun hr=>let⟨todo,h1⟩:=gk.1 hr;⟨todo,hs.trans h1⟩,fun hr=>let⟨k₁,h1⟩:=gk.2 hr;⟨k₁,hs.trans h1⟩⟩
 |panic ch=>obtain⟨todo,h1⟩:=gk;exact⟨_,a₁,cs₁,w₁,hl,mS,todo,hs.trans h1⟩
 |outgrown=>exact⟨_,a₁,cs₁,w₁,hl,mS,gk.imp id (Outgrown.of_steps hs.steps)⟩
theorem yA{F:Fence}{Q:Exit→Act→List Frame→World→Prop}{cs:List Frame}(hF:∀f,F.fn f){ops:Array Oper}:∀{os:List Oper} {k:Nat},(∀j,j<os.length→ops[k+j]?=os[j]?)→∀{l:List bp} {e:Env} {tr:List aK} {e':Env},OT P H0 l e h tr e' h→
  os.map (bE P ops)=l→ke l=true→cY N l=true→∀{a:Act},bG ρ D N e a→
  (∀a',bG ρ D N e' a'→a'.defers=a.defers→Q .normal a' cs w)→wpOpsSIn F n P ops Q (List.range' k os.length) a cs w
 |[],k,xY,l,e,tr,e',j8,hos,jn,hok,a,he,hk=>by
  simp only[List.map_nil] at hos;subst hos;cases tr with
  |cons m tr=>simp[OT] at j8
  |nil=>
   simp only[OT] at j8;obtain⟨rfl,_⟩:=j8;exact hk a he rfl
 |o::os,k,xY,l,e,tr,e',j8,hos,jn,hok,a,he,hk=>by
  simp only[List.map_cons] at hos;subst hos;cases tr with
  |nil=>simp[OT] at j8
  |cons m tr=>
   have h0:ops[k]?=some o:=by have:=xY 0 (by simp);simpa using this
   obtain⟨q,hq⟩:∃q,bE P ops o=q:=⟨_,rfl⟩;rw[hq] at j8 jn hok;obtain⟨qd,qg,YK,Lu⟩:=q;have lu:=(cN hq).1;simp only[cY,Bool.and_eq_true] at hok;simp only[ke,Bool.and_eq_true] at jn;simp only[OT] at j8;obtain⟨A2,x7,j8⟩:=j8;simp only at lu;cases YK<;>cases qg<;>simp at jn
   rename_i p;rcases j8 with⟨gb,hw,hv,kr⟩|⟨gb,hw,h1,hop,kr⟩
   ·simp[bO] at hw
   ·obtain⟨hp,RJ⟩:=hop;rw[RJ] at kr;have hc:=((cN hq).2 (.inl (by simp))).1;simp only at hc;have gp:=dV hq (.inl (by simp)) he;rw[x7] at hp;have ZD:=vX (w:=w) he hc hp;rw[List.length_cons,List.range'_succ];unfold wpOpsSIn;rw[h0];simp only;refine⟨fun f _=>hF f,?_⟩;rw[if_pos (by rw[gp,hw]),ZD.1];simp only;rw[←lu];refine yA hF (k:=k+1) (fun j hj=>?_) kr rfl jn hok.2 (he.put hok.1 ZD.2) (fun a' g1 g2=>hk a' g1 (g2.trans (by cases qd<;>rfl)));have:=xY (j+1) (by simp only[List.length_cons];omega);rw[show k+1+j=k+(j+1) by omega,this,List.getElem?_cons_succ]
def mz(ρ:cG):AX→FrameMode
 |.panic v=>.panicking [{v:=real ρ v,recovered:=false}]
 |_=>.returning
theorem Bw{ρ:cG}{x:AX}{c₀:Frame}{cs:List Frame}(hm:c₀.mode=mz ρ x):
  ∃u',settle u'=.returning∧((recoverD (c₀::cs)=some (real ρ (mC x),{c₀ with mode:=u'}::cs))∨(recoverD (c₀::cs)=none∧real ρ (mC x)=.nilIface∧u'=c₀.mode)):=by
 cases x with
 |panic v=>exact⟨.panicking [{v:=real ρ v,recovered:=true}],rfl,.inl (by simp[recoverD,hm,mz,mC])⟩
 |normal=>exact⟨.returning,rfl,.inr ⟨by simp[recoverD,hm,mz],by simp[mC,real],by rw[hm];rfl⟩⟩
 |ret=>exact⟨.returning,rfl,.inr ⟨by simp[recoverD,hm,mz],by simp[mC,real],by rw[hm];rfl⟩⟩
 |exit id=>exact⟨.returning,rfl,.inr ⟨by simp[recoverD,hm,mz],by simp[mC,real],by rw[hm];rfl⟩⟩
theorem BC{fs:Nat→Option aj}{ms:Nat→String→Option Nat}(sys:kW P fs ms){g:Nat}{args:List AV}{ag:aj}{x y:AX}{t:Nat}{l2:List bp}{dJ:AC}{wV:List aK}{e4 e5:Env}{h5:Heap}
  (hg:fs g=some ag)(hlen:args.length≤ag.ntmps)(hbody:ag.body=.seq (.ops (v9 t::l2)) dJ)(hres:ag.results=[])(DI:aU dJ=true)
  (j8:OT P H0 l2 ((Env.start ag.ntmps args).put (some t) (mC x)) h wV e4 h)(jn:ke l2=true)(kr:bD P H0 false dJ e4 h y e5 h5)(hy:y=.normal∨y=.ret)
  {R:Ending→FrameMode→World→Prop}(hi:Inv P H0 ρ D h w)(hd:bl D args)(OV:(mC x).aW D)
  (hk:∀ρ' v u' w',settle u'=.returning→Inv P H0 ρ' (grow D h.next h5.next) h5 w'→Ext ρ D h w ρ' h5 w'→R (.returned v) u' w'):
  CallsDIn Fence.wide n P g (aq ρ args).toArray (mz ρ x) w R:=by
 obtain⟨fn,hfn,Cz⟩:=sys.zc g ag hg;obtain⟨c,rs,hb,hr,hname,hok,rfl⟩:=gU Cz;simp only at hlen hbody hres;refine callsDIn_of_wpSIn hfn hb trivial ?_;intro c₀ cs hm;have he:=mO (ρ:=ρ) hd hlen;obtain⟨u',iB,Hl⟩:=Bw (cs:=cs) hm;have DE:∀l a cs' w,¬bodyPostS P fn c₀ cs R (.goto l) a cs' w:=fun l a cs' w hh=>hh;have tq:∀(code:Code),aE P code=dJ→codeOk fn.ntmps dJ=true→∀(a:Act),bG ρ D fn.ntmps e4 a→a.defers=[]→
   code.wpSIn Fence.wide n P (bodyPostS P fn c₀ cs R) a ({c₀ with mode:=u'}::cs) w:=by
  intro code eE zi a he4 had;refine wpSIn_of_wpIn rfl ?_;have hm0:jc [] w.heap.size ρ D h w a.defers:=⟨[],by rw[had];rfl,List.nodup_nil,fun r hr=>by simp at hr⟩;refine Code.wpIn_mono ?_ (kr code eE fn.ntmps zi none rfl ρ D w a w.heap.size n [] hi he4 hm0 (Nat.le_refl _));rintro ex a' w' ⟨ρ',hex,g1,g2,g3,g4,g5⟩;have Rz:=(g5 DI).trans had;have hrun:=kH (P:=P) (fn:=fn) (vs:=[]) g3 g1 hr (by rw[hres];rfl);rcases hy with rfl|rfl
  ·have hex:ex=.normal:=hex;subst hex;exact⟨Rz,u',rfl,_,hrun.1,hk ρ' _ u' w' iB g1 g2⟩
  ·have hex:ex=.ret:=hex;subst hex;exact⟨Rz,u',rfl,_,hrun.1,hk ρ' _ u' w' iB g1 g2⟩
 have hcb:∀(code:Code),aE P code=.seq (.ops (v9 t::l2)) dJ→codeOk fn.ntmps (.seq (.ops (v9 t::l2)) dJ)=true→
   code.wpSIn Fence.wide n P (bodyPostS P fn c₀ cs R) {tmps:=(aq ρ args).toArray++Array.replicate (fn.ntmps-(aq ρ args).toArray.size) Go.undef,defers:=[]} (c₀::cs) w:=by
  intro code;induction code with
  |scope c' ih=>
   intro eE zi;exact uo DE (ih (by simpa[aE] using eE) zi)
  |seq c1 c2 _ _=>
   intro eE zi;simp only[aE,AC.seq.injEq] at eE;simp only[codeOk,Bool.and_eq_true] at zi;refine wpSIn_seq ?_;have A5:∀(code:Code),aE P code=.ops (v9 t::l2)→
     code.wpSIn Fence.wide n P (Exit.thenS (c2.wpSIn Fence.wide n P (bodyPostS P fn c₀ cs R)) (bodyPostS P fn c₀ cs R)) {tmps:=(aq ρ args).toArray++Array.replicate (fn.ntmps-(aq ρ args).toArray.size) Go.undef,defers:=[]} (c₀::cs) w:=by
    intro code;induction code with
    |scope c' ih=>
     intro eE;exact uo (fun l a cs' w hh=>hh) (ih (by simpa[aE] using eE))
    |region id os draw=>
     intro Ok;obtain⟨id',os',hcd,hos⟩:=dS (code:=.region id os draw) rfl Ok;simp only[Code.region.injEq] at hcd;obtain⟨_,rfl,rfl⟩:=hcd;refine wpSIn_region ?_;rcases B2:os.toList with _|⟨o,YG⟩
     ·rw[B2] at hos;simp at hos
     ·rw[B2] at hos;simp only[List.map_cons,List.cons.injEq] at hos;obtain⟨lu,hgd,c0,R3,Of⟩:=Kn hos.1;have hsz:os.size=YG.length+1:=by rw[←Array.length_toList,B2];rfl
      have h0:os[0]?=some o:=by rw[←Array.getElem?_toList,B2];rfl
      rw[hsz,List.range_eq_range',List.range'_succ];unfold wpOpsSIn;rw[h0];simp only;refine⟨fun _ _=>trivial,?_⟩;rw[if_pos (by simp[Region.wanted,hgd])];have hrun:(execOp (Act.eval {tmps:=(aq ρ args).toArray++Array.replicate (fn.ntmps-(aq ρ args).toArray.size) Go.undef,defers:=[]}) o).run P w=.ok .recover w:=by
       unfold execOp;rw[R3];simp[resolve,Of,Sem.run_bind,Result.andThen,invoke,builtin]
      rw[hrun];simp only;have htb:vk fn.ntmps (some t)=true:=by
       have:=zi.1;simp only[cY,v9,Bool.and_eq_true] at this;exact this.1
      have X8:cY fn.ntmps l2=true:=by
       have:=zi.1;simp only[cY,Bool.and_eq_true] at this;exact this.2
      have AZ:∀v,v=real ρ (mC x)→wpOpsSIn Fence.wide n P os (Exit.thenS (c2.wpSIn Fence.wide n P (bodyPostS P fn c₀ cs R)) (bodyPostS P fn c₀ cs R)) (List.range' (0+1) YG.length) (Act.put {tmps:=(aq ρ args).toArray++Array.replicate (fn.ntmps-(aq ρ args).toArray.size) Go.undef,defers:=[]} o.dst v) ({c₀ with mode:=u'}::cs) w:=by
       rintro v rfl;rw[lu];refine yA (fun _=>trivial) (k:=0+1) (fun j hj=>?_) j8 hos.2 jn X8 (he.put htb OV) (fun a' k1 k2=>?_)
       ·rw[←Array.getElem?_toList,B2,show 0+1+j=j+1 by omega,List.getElem?_cons_succ]
       ·exact tq c2 eE.2 zi.2 a' k1 k2
      rcases Hl with Hl|⟨Hl,hni,hu'⟩
      ·rw[Hl];exact AZ _ rfl
      ·rw[Hl];simp only;have:=AZ .nilIface hni.symm;rw[hu'] at this;exact this
    |_=>intro Ok;obtain⟨_,_,hcd,_⟩:=dS rfl Ok;simp at hcd
   exact A5 c1 eE.1
  |_=>intro eE zi;obtain⟨_,_,hcd,_⟩:=fo rfl eE;simp at hcd
 rw[hbody] at hok;exact hcb c hbody hok
theorem Fi{fs:Nat→Option aj}{ms:Nat→String→Option Nat}(sys:kW P fs ms){f:Nat}{args:List AV}{af:aj}{A rest:AC}{l1:List bp}{dst:Option Nat}{r:bx}{e1 e2 e3:Env}{h2 h3:Heap}{tr:List aK}{g:Nat}{first aO:List AV}{ag:aj}{x y:AX}{t:Nat}{l2:List bp}{dJ:AC}{wV:List aK}{e4 e5:Env}{h5:Heap}{vs:List AV}
  (hf:fs f=some af)(hlen:args.length≤af.ntmps)(GZ:af.body=.seq A (.seq (.ops (l1++[om dst r])) rest))(hA:bD P H0 false A (Env.start af.ntmps args) h .normal e1 h1)(B0:aU A=true)(Qj:OT P H0 l1 e1 h1 tr e2 h2)(hr:e2.ev r=.func (.func g) first aO)
  (kr:bD P H0 false rest (e2.put dst .undef) h2 x e3 h3)(hx:x=.normal∨x=.ret∨∃v,x=.panic v)
  (hg:fs g=some ag)(AY:(first++aO).length≤ag.ntmps)(hbody:ag.body=.seq (.ops (v9 t::l2)) dJ)(A0:ag.results=[])(DI:aU dJ=true)
  (j8:OT P H0 l2 ((Env.start ag.ntmps (first++aO)).put (some t) (mC x)) h3 wV e4 h3)(jn:ke l2=true)(Ho:bD P H0 false dJ e4 h3 y e5 h5)(hy:y=.normal∨y=.ret)
  (tv:∀(args:Array Value) (w:World),(callFunc g args).run P w=.ok (.enter g args) w)
  (hres:eA e3 h5 af.results=some vs):fR P H0 f args h (cB vs) h5:=by
 obtain⟨fn,hfn,Cz⟩:=sys.zc f af hf;obtain⟨c,rs,hb,CF,hname,hok,rfl⟩:=gU Cz;simp only at hlen GZ hres;intro ρ D w n hi hd;refine callsIn_of_wp_marks hfn hb trivial ?_;have he:=mO (ρ:=ρ) hd hlen;rw[GZ] at hok;simp only[codeOk,Bool.and_eq_true] at hok;obtain⟨X9,OC,Ya⟩:=hok;rw[qc,Bool.and_eq_true] at OC;have RB:vk fn.ntmps dst=true:=by
  have:=OC.2;simp only[cY,om,Bool.and_true] at this;exact this
 generalize Ro:(fun(e:Ending) (w':World)=>∃ρ',e=.returned (real ρ' (cB vs))∧Inv P H0 ρ' (grow D h.next h5.next) h5 w'∧Ext ρ D h w ρ' h5 w'∧(cB vs).aW (grow D h.next h5.next))=R;have DE:∀l a w,¬bodyPostM Fence.wide n P fn R (.goto l) a w:=fun l a w hh=>hh;have JN:∀(code:Code),aE P code=rest→∀(iQ:cG) (w2:World) (a2:Act),Inv P H0 iQ (grow D h.next h2.next) h2 w2→Ext ρ D h w iQ h2 w2→bG iQ (grow D h.next h2.next) fn.ntmps (e2.put dst .undef) a2→
   bl (grow D h.next h2.next) first→bl (grow D h.next h2.next) aO→
   a2.defers=[{target:=.fn (.func g) (aq iQ aO).toArray,args:=(aq iQ first).toArray}]→code.wpIn Fence.wide n P (bodyPostM Fence.wide n P fn R) a2 w2:=by
  intro code eE iQ w2 a2 i2 x2 KT Le FD GX;have hm2:jc a2.defers w2.heap.size iQ (grow D h.next h2.next) h2 w2 a2.defers:=⟨[],rfl,List.nodup_nil,fun r hr=>by simp at hr⟩;refine Code.wpIn_mono ?_ (kr code eE fn.ntmps Ya none rfl iQ _ w2 a2 w2.heap.size n a2.defers i2 KT hm2 (Nat.le_refl _));rintro ex a3 w3 ⟨Qz,hex,i3,x3,ei3,m3,_⟩;have Lh:=dH D x2.next x3.next;have OV:(mC x).aW (grow (grow D h.next h2.next) h2.next h3.next):=by
   rcases hx with rfl|rfl|⟨v,rfl⟩
   ·simp[mC,AV.aW]
   ·simp[mC,AV.aW]
   ·exact hex.2
  have jf:LeavesInM Fence.wide n P fn a3.tmps R a3.defers (mz Qz x) w3:=by
   refine l7 (u:=mz Qz x) (by rcases hx with rfl|rfl|⟨v,rfl⟩<;>simp[mz]) i3 x3 m3 ?_;intro w4 i4 x4;rw[GX];have hargs:aq iQ first=aq Qz first:=(ep (fun b hb=>x4.bA b hb) first Le).symm
   have Rs:aq iQ aO=aq Qz aO:=(ep (fun b hb=>x4.bA b hb) aO FD).symm;rw[hargs,Rs];refine⟨by rcases hx with rfl|rfl|⟨v,rfl⟩<;>simp[mz],.inr ⟨fun hh=>by simp[Fence.wide] at hh,.func g,(aq Qz aO).toArray,g,(aq Qz (first++aO)).toArray,rfl,?_,fun _ _=>trivial,?_⟩⟩
   ·simp only[invoke,tv]
    congr 2
    simp[ig]
   ·have hda:bl (grow (grow D h.next h2.next) h2.next h3.next) (first++aO):=by
     rw[aN];intro z hz;rcases List.mem_append.1 hz with hz|hz
     ·exact cO (fun b hb=>.inl hb) _ ((aN _ _).1 Le z hz)
     ·exact cO (fun b hb=>.inl hb) _ ((aN _ _).1 FD z hz)
    refine BC sys hg AY hbody A0 DI j8 jn Ho hy i4 hda OV ?_;intro YV v u' w5 iB i5 x5;show LeavesInM Fence.wide n P fn a3.tmps R [] (settle u') w5;rw[iB];have Sd:=Ext.trans i2.lt x4 x5;have RI:=dH (grow D h.next h2.next) x3.next x5.next;rw[RI] at i5;have RH:=dH D x2.next Sd.next;rw[RH] at i5;have ei5:bG YV (grow D h.next h5.next) fn.ntmps e3 a3:=by
     have:=ei3.mono (ρ':=YV) (D':=grow (grow (grow D h.next h2.next) h2.next h3.next) h3.next h5.next) x5.bA (fun _=>.inl);rw[RI,RH] at this;exact this
    have hrun:=kH (P:=P) (fn:=fn) ei5 i5 CF hres;refine⟨_,hrun.1,?_⟩;rw[←Ro];exact⟨YV,rfl,i5,Ext.trans hi.lt x2 Sd,hrun.2⟩
  rcases hx with rfl|rfl|⟨v,rfl⟩
  ·have hex:ex=.normal:=hex;subst hex;exact jf
  ·have hex:ex=.ret:=hex;subst hex;exact jf
  ·obtain⟨hex,_⟩:=hex;subst hex;exact jf
 have JR:∀(code:Code),aE P code=.ops (l1++[om dst r])→∀(c3:Code),aE P c3=rest→∀(pO:cG) (w1:World) (a1:Act),Inv P H0 pO (grow D h.next h1.next) h1 w1→Ext ρ D h w pO h1 w1→bG pO (grow D h.next h1.next) fn.ntmps e1 a1→
   a1.defers=[]→code.wpIn Fence.wide n P (Exit.then (c3.wpIn Fence.wide n P (bodyPostM Fence.wide n P fn R)) (bodyPostM Fence.wide n P fn R)) a1 w1:=by
  intro code;induction code with
  |scope c' ih=>
   intro eE c3 K8 pO w1 a1 i1 x1 EK BZ;exact lO (fun l a w hh=>hh) (ih (by simpa[aE] using eE) c3 K8 pO w1 a1 i1 x1 EK BZ)
  |region id os draw=>
   intro eE c3 K8 pO w1 a1 i1 x1 EK BZ;obtain⟨id',os',hcd,hos⟩:=dS (code:=.region id os draw) rfl eE;simp only[Code.region.injEq] at hcd;obtain⟨_,rfl,rfl⟩:=hcd;refine wpIn_region_list ?_;have hsplit:os.toList=os.toList.take l1.length++os.toList.drop l1.length:=(List.take_append_drop _ _).symm;have hpre:(os.toList.take l1.length).map (bE P os)=l1:=by rw[List.map_take,hos];simp
   have Hs:(os.toList.drop l1.length).map (bE P os)=[om dst r]:=by rw[List.map_drop,hos];simp
   rw[hsplit];refine qf (ro:=none) Qj hpre OC.1 i1 EK ?_;intro iQ w2 a2 i2 x2 KT GX;have Lh:=dH D x1.next x2.next;rw[Lh] at i2 KT;have x12:=Ext.trans hi.lt x1 x2;rcases B2:os.toList.drop l1.length with _|⟨o,YG⟩
   ·rw[B2] at Hs;simp at Hs
   ·rw[B2] at Hs;simp only[List.map_cons,List.cons.injEq,List.map_eq_nil_iff] at Hs;obtain⟨hc0,rfl⟩:=Hs;obtain⟨lu,hgd,cl,f0,R3,Of,hca,hrf⟩:=Gh hc0;have vC:=aG KT hrf;rw[hr] at vC;simp only[AV.aW] at vC;unfold wpListIn;rw[if_pos (by simp[Region.wanted,hgd])];refine⟨fun _ _=>trivial,?_⟩;have hrun:(Oper.semAt none a2.eval o).run P w2=.ok (.defer {target:=.fn (.func g) (aq iQ aO).toArray,args:=(aq iQ first).toArray}) w2:=by
     rw[Oper.semAt_none];unfold execOp;rw[R3];have hargs:cl.args.map a2.eval=#[]:=by
      apply Array.ext';simp[hca]
     simp[resolve,Of,vC.1,real,Deferred.ofValue,hargs,Sem.run_bind,Result.andThen]
    show o.uponIn Fence.wide n P a2 _ _ ((Oper.semAt none a2.eval o).run P w2);rw[hrun];rw[Oper.uponIn_defer];unfold wpListIn;show c3.wpIn Fence.wide n P (bodyPostM Fence.wide n P fn R) _ _;refine JN c3 K8 iQ w2 _ i2 x12 ?_ vC.2.2.1 vC.2.2.2 ?_
    ·have W5:bG iQ (grow D h.next h2.next) fn.ntmps e2 {a2 with defers:={target:=.fn (.func g) (aq iQ aO).toArray,args:=(aq iQ first).toArray}::a2.defers}:=⟨KT.size,KT.get,KT.dom⟩;have:=W5.put (d:=dst) (v:=.undef) RB (by simp[AV.undef,AV.aW,bl]);rw[fA,←lu] at this;rw[←lu];exact this
    ·have JP:a2.defers=[]:=GX.trans BZ;have:∀(a:Act) (d:Option Nat) (v:Value),(a.put d v).defers=a.defers:=by intro a d v;cases d<;>rfl
     rw[this];simp[JP]
  |_=>intro eE;obtain⟨_,_,hcd,_⟩:=dS rfl eE;simp at hcd
 have Sa:∀(code:Code),aE P code=.seq (.ops (l1++[om dst r])) rest→∀(pO:cG) (w1:World) (a1:Act),Inv P H0 pO (grow D h.next h1.next) h1 w1→Ext ρ D h w pO h1 w1→bG pO (grow D h.next h1.next) fn.ntmps e1 a1→
   a1.defers=[]→code.wpIn Fence.wide n P (bodyPostM Fence.wide n P fn R) a1 w1:=by
  intro code;induction code with
  |scope c' ih=>
   intro eE pO w1 a1 i1 x1 EK BZ;exact lO DE (ih (by simpa[aE] using eE) pO w1 a1 i1 x1 EK BZ)
  |seq c1 c2 _ _=>
   intro eE pO w1 a1 i1 x1 EK BZ;simp only[aE,AC.seq.injEq] at eE;exact wpIn_seq (JR c1 eE.1 c2 eE.2 pO w1 a1 i1 x1 EK BZ)
  |_=>intro eE;obtain⟨_,_,hcd,_⟩:=fo rfl eE;simp at hcd
 have OU:∀(code:Code),aE P code=.seq A (.seq (.ops (l1++[om dst r])) rest)→
   code.wpIn Fence.wide n P (bodyPostM Fence.wide n P fn R) {tmps:=(aq ρ args).toArray++Array.replicate (fn.ntmps-(aq ρ args).toArray.size) Go.undef,defers:=[]} w:=by
  intro code;induction code with
  |scope c' ih=>
   intro eE;exact lO DE (ih (by simpa[aE] using eE))
  |seq c1 c2 _ _=>
   intro eE;simp only[aE,AC.seq.injEq] at eE;refine wpIn_seq ?_;have hm:jc [] w.heap.size ρ D h w ([]:List Deferred):=⟨[],rfl,List.nodup_nil,fun r hr=>by simp at hr⟩;refine Code.wpIn_mono ?_ (hA c1 eE.1 fn.ntmps X9 none rfl ρ D w _ w.heap.size n [] hi he hm (Nat.le_refl _));rintro ex a1 w1 ⟨pO,hex,i1,x1,EK,m1,BZ⟩;have hex:ex=.normal:=hex;subst hex;exact Sa c2 eE.2 pO w1 a1 i1 x1 EK (BZ B0)
  |_=>intro eE;obtain⟨_,_,hcd,_⟩:=fo rfl eE;simp at hcd
 exact OU c GZ
end
end Ads
end Go.Proofs.YtmnolnoeibhjgaaGreat
