/-
  What big steps mean in the model: a function that defers a closure which recovers.
-/
import Derived.Test.YtnlcabhfkpafmaaGreatAdsCall
import Derived.RecoverIn
set_option linter.unusedSimpArgs false
set_option linter.unusedVariables false
namespace Go.Proofs.YtnlcabhfkpafmaaGreat
namespace Ads
section
variable {P:Program} {H0 W0:Nat} {ρ ρ':cE} {D D':Dom} {h h' h1:Heap} {w w':World} {N n:Nat} {env e e':Env} {a:Act} {ro:Option Nat} {rd:Bool}
theorem r7{ops:Array Oper}{o:Oper}{i:bF}{as:List bG}(hc:bE P ops o=i)(hop:i.op=.bad)(has:i.args=as)(hl:as.length=4):uS o=as∧i.dst=o.dst:=by
 unfold bE at hc;simp only at hc;split at hc
 ·rename_i g op as' hg gy;subst hc;simp only at hop has;subst hop has;have:=HH gy;omega
 ·subst hc;exact⟨has,rfl⟩
theorem HK{ops:Array Oper}{o:Oper}{dst:Option Nat}{r:bG}(hc:bE P ops o=qF dst r):o.dst=dst∧o.guard=none∧∃c f,o.op=.defer c∧c.callee=.value f∧c.args.toList=[]∧dg f=some r:=by
 obtain⟨h1,h2⟩:=r7 (as:=[.c (.bool true),r,r,r]) hc rfl rfl rfl;refine⟨h2.symm,?_⟩;unfold uS at h1;split at h1
 ·rename_i c hg ho;split at h1
  ·rename_i f hcb hca;split at h1
   ·rename_i r' hr;simp only[List.cons.injEq,and_true,true_and] at h1;exact⟨hg,c,f,ho,hcb,hca,by rw[hr,h1.1]⟩
   ·simp at h1
  ·simp at h1
 ·split at h1
  ·simp at h1
  ·simp at h1
 ·simp at h1
theorem Of{ops:Array Oper}{o:Oper}{t:Nat}(hc:bE P ops o=z8 t):o.dst=some t∧o.guard=none∧∃c,o.op=.call c∧c.callee=.builtin .recover:=by
 obtain⟨h1,h2⟩:=r7 (as:=[.c (.bool false),.c (.bool false),.c (.bool false),.c (.bool false)]) hc rfl rfl rfl;refine⟨h2.symm,?_⟩;unfold uS at h1;split at h1
 ·split at h1
  ·split at h1
   ·simp at h1
   ·simp at h1
  ·simp at h1
 ·rename_i c hg ho;split at h1
  ·rename_i hcb;exact⟨hg,c,ho,hcb⟩
  ·simp at h1
 ·simp at h1
theorem uD{F:Fence}{Q:Exit→Act→List Frame→World→Prop}{cs:List Frame}{c:Code}(hq:∀l a cs w,¬Q (.goto l) a cs w)(h:c.wpSIn F n P Q a cs w):(Code.scope c).wpSIn F n P Q a cs w:=by
 intro b k Y5 hro hb hr;obtain⟨e,a₁,cs₁,w₁,hl,m0,ig⟩:=h b (.inScope c::k) Y5 hro hb hr;have s0:step P (lone (b.atR a (.code (.scope c)::k)) cs w)=.next (lone (b.atR a (.code c::.inScope c::k)) cs w):=
  step_lone_go (by simp[stepG,stepG.exec,Frame.atR])
 have s1:∀(a:Act) (cs:List Frame) (w:World),step P (lone (b.atR a (.inScope c::k)) cs w)=.next (lone (b.atR a k) cs w):=fun a cs w=>
  step_lone_go (by simp[stepG,stepG.exec,Frame.atR])
 have f0:(lone (b.atR a (.code (.scope c)::k)) cs w).fenced P F:=fenced_calm hb hr rfl;have hs:StepsIn (Machine.fenced P F) P (lone (b.atR a (.code (.scope c)::k)) cs w) (lone (b.atR a (.code c::.inScope c::k)) cs w):=.one f0 s0;cases e with
 |normal=>exact⟨.normal,a₁,cs₁,w₁,hl,m0,hs.trans (StepsIn.trans ig (.one (fenced_calm (fr:=b.atR a₁ (.inScope c::k)) hb (hl▸hr) rfl) (s1 a₁ cs₁ w₁)))⟩
 |exit id=>
  refine⟨.exit id,a₁,cs₁,w₁,hl,m0,fun k' hk=>hs.trans (ig.1 k' (by simp[exitTo,hk])),fun hr hk=>?_⟩;obtain⟨k₁,h1,h2⟩:=ig.2 hr (by simp[exitTo,hk]);exact⟨k₁,h1,hs.trans h2⟩
 |goto l=>exact absurd m0 (hq l a₁ cs₁ w₁)
 |ret=>exact⟨_,a₁,cs₁,w₁,hl,m0,fun hr=>let⟨todo,h1⟩:=ig.1 hr;⟨todo,hs.trans h1⟩,fun hr=>let⟨k₁,h1⟩:=ig.2 hr;⟨k₁,hs.trans h1⟩⟩
 |panic ch=>obtain⟨todo,h1⟩:=ig;exact⟨_,a₁,cs₁,w₁,hl,m0,todo,hs.trans h1⟩
 |outgrown=>exact⟨_,a₁,cs₁,w₁,hl,m0,ig.imp id (Outgrown.of_steps hs.steps)⟩
theorem yT{F:Fence}{Q:Exit→Act→List Frame→World→Prop}{cs:List Frame}(hF:∀f,F.fn f){ops:Array Oper}:∀{os:List Oper} {k:Nat},(∀j,j<os.length→ops[k+j]?=os[j]?)→∀{l:List bF} {e:Env} {tr:List aM} {e':Env},OT P H0 l e h tr e' h→
  os.map (bE P ops)=l→nS l=true→cV N l=true→∀{a:Act},bI ρ D N e a→
  (∀a',bI ρ D N e' a'→a'.defers=a.defers→Q .normal a' cs w)→wpOpsSIn F n P ops Q (List.range' k os.length) a cs w
 |[],k,Cj,l,e,tr,e',kz,hos,j5,hok,a,he,hk=>by
  simp only[List.map_nil] at hos;subst hos;cases tr with
  |cons m tr=>simp[OT] at kz
  |nil=>
   simp only[OT] at kz;obtain⟨rfl,_⟩:=kz;exact hk a he rfl
 |o::os,k,Cj,l,e,tr,e',kz,hos,j5,hok,a,he,hk=>by
  simp only[List.map_cons] at hos;subst hos;cases tr with
  |nil=>simp[OT] at kz
  |cons m tr=>
   have h0:ops[k]?=some o:=by have:=Cj 0 (by simp);simpa using this
   obtain⟨q,hq⟩:∃q,bE P ops o=q:=⟨_,rfl⟩;rw[hq] at kz j5 hok;obtain⟨qd,qg,SU,PB⟩:=q;have lM:=(cI hq).1;simp only[cV,Bool.and_eq_true] at hok;simp only[nS,Bool.and_eq_true] at j5;simp only[OT] at kz;obtain⟨Bn,yD,kz⟩:=kz;simp only at lM;cases SU<;>cases qg<;>simp at j5
   rename_i p;rcases kz with⟨eM,hw,hv,kN⟩|⟨eM,hw,h1,hop,kN⟩
   ·simp[cD] at hw
   ·obtain⟨hp,FN⟩:=hop;rw[FN] at kN;have hc:=((cI hq).2 (.inl (by simp))).1;simp only at hc;have iK:=ec hq (.inl (by simp)) he;rw[yD] at hp;have hpi:=wE (w:=w) he hc hp;rw[List.length_cons,List.range'_succ];unfold wpOpsSIn;rw[h0];simp only;refine⟨fun f _=>hF f,?_⟩;rw[if_pos (by rw[iK,hw]),hpi.1];simp only;rw[←lM];refine yT hF (k:=k+1) (fun j hj=>?_) kN rfl j5 hok.2 (he.put hok.1 hpi.2) (fun a' g1 g2=>hk a' g1 (g2.trans (by cases qd<;>rfl)));have:=Cj (j+1) (by simp only[List.length_cons];omega);rw[show k+1+j=k+(j+1) by omega,this,List.getElem?_cons_succ]
def mH(ρ:cE):AX→FrameMode
 |.panic v=>.panicking [{v:=real ρ v,recovered:=false}]
 |_=>.returning
theorem BW{ρ:cE}{x:AX}{c₀:Frame}{cs:List Frame}(hm:c₀.mode=mH ρ x):
  ∃u',settle u'=.returning∧((recoverD (c₀::cs)=some (real ρ (oB x),{c₀ with mode:=u'}::cs))∨(recoverD (c₀::cs)=none∧real ρ (oB x)=.nilIface∧u'=c₀.mode)):=by
 cases x with
 |panic v=>exact⟨.panicking [{v:=real ρ v,recovered:=true}],rfl,.inl (by simp[recoverD,hm,mH,oB])⟩
 |normal=>exact⟨.returning,rfl,.inr ⟨by simp[recoverD,hm,mH],by simp[oB,real],by rw[hm];rfl⟩⟩
 |ret=>exact⟨.returning,rfl,.inr ⟨by simp[recoverD,hm,mH],by simp[oB,real],by rw[hm];rfl⟩⟩
 |exit id=>exact⟨.returning,rfl,.inr ⟨by simp[recoverD,hm,mH],by simp[oB,real],by rw[hm];rfl⟩⟩
theorem B6{fs:Nat→Option ak}{ms:Nat→String→Option Nat}(sys:om P fs ms){g:Nat}{args:List AV}{ag:ak}{x y:AX}{t:Nat}{l2:List bF}{iA:AC}{PG:List aM}{e4 e5:Env}{h5:Heap}
  (hg:fs g=some ag)(hlen:args.length≤ag.ntmps)(hbody:ag.body=.seq (.ops (z8 t::l2)) iA)(hres:ag.results=[])(GP:bC iA=true)
  (kz:OT P H0 l2 ((Env.start ag.ntmps args).put (some t) (oB x)) h PG e4 h)(j5:nS l2=true)(kN:bM P H0 false iA e4 h y e5 h5)(hy:y=.normal∨y=.ret)
  {R:Ending→FrameMode→World→Prop}(hi:Inv P H0 ρ D h w)(hd:bl D args)(Rn:(oB x).aX D)
  (hk:∀ρ' v u' w',settle u'=.returning→Inv P H0 ρ' (grow D h.next h5.next) h5 w'→Ext ρ D h w ρ' h5 w'→R (.returned v) u' w'):
  CallsDIn Fence.wide n P g (aq ρ args).toArray (mH ρ x) w R:=by
 obtain⟨fn,hfn,CX⟩:=sys.CP g ag hg;obtain⟨c,rs,hb,hr,hname,hok,rfl⟩:=ia CX;simp only at hlen hbody hres;refine callsDIn_of_wpSIn hfn hb trivial ?_;intro c₀ cs hm;have he:=mW (ρ:=ρ) hd hlen;obtain⟨u',iS,IL⟩:=BW (cs:=cs) hm;have Ed:∀l a cs' w,¬bodyPostS P fn c₀ cs R (.goto l) a cs' w:=fun l a cs' w hh=>hh;have tF:∀(code:Code),aD P code=iA→codeOk fn.ntmps iA=true→∀(a:Act),bI ρ D fn.ntmps e4 a→a.defers=[]→
   code.wpSIn Fence.wide n P (bodyPostS P fn c₀ cs R) a ({c₀ with mode:=u'}::cs) w:=by
  intro code gy zG a he4 had;refine wpSIn_of_wpIn rfl ?_;have hm0:jC [] w.heap.size ρ D h w a.defers:=⟨[],by rw[had];rfl,List.nodup_nil,fun r hr=>by simp at hr⟩;refine Code.wpIn_mono ?_ (kN code gy fn.ntmps zG none rfl ρ D w a w.heap.size n [] hi he4 hm0 (Nat.le_refl _));rintro ex a' w' ⟨ρ',hex,g1,g2,g3,g4,g5⟩;have TU:=(g5 GP).trans had;have hrun:=kY (P:=P) (fn:=fn) (vs:=[]) g3 g1 hr (by rw[hres];rfl);rcases hy with rfl|rfl
  ·have hex:ex=.normal:=hex;subst hex;exact⟨TU,u',rfl,_,hrun.1,hk ρ' _ u' w' iS g1 g2⟩
  ·have hex:ex=.ret:=hex;subst hex;exact⟨TU,u',rfl,_,hrun.1,hk ρ' _ u' w' iS g1 g2⟩
 have hcb:∀(code:Code),aD P code=.seq (.ops (z8 t::l2)) iA→codeOk fn.ntmps (.seq (.ops (z8 t::l2)) iA)=true→
   code.wpSIn Fence.wide n P (bodyPostS P fn c₀ cs R) {tmps:=(aq ρ args).toArray++Array.replicate (fn.ntmps-(aq ρ args).toArray.size) Go.undef,defers:=[]} (c₀::cs) w:=by
  intro code;induction code with
  |scope c' ih=>
   intro gy zG;exact uD Ed (ih (by simpa[aD] using gy) zG)
  |seq c1 c2 _ _=>
   intro gy zG;simp only[aD,AC.seq.injEq] at gy;simp only[codeOk,Bool.and_eq_true] at zG;refine wpSIn_seq ?_;have Bq:∀(code:Code),aD P code=.ops (z8 t::l2)→
     code.wpSIn Fence.wide n P (Exit.thenS (c2.wpSIn Fence.wide n P (bodyPostS P fn c₀ cs R)) (bodyPostS P fn c₀ cs R)) {tmps:=(aq ρ args).toArray++Array.replicate (fn.ntmps-(aq ρ args).toArray.size) Go.undef,defers:=[]} (c₀::cs) w:=by
    intro code;induction code with
    |scope c' ih=>
     intro gy;exact uD (fun l a cs' w hh=>hh) (ih (by simpa[aD] using gy))
    |region id os draw=>
     intro TM;obtain⟨id',os',hcd,hos⟩:=dV (code:=.region id os draw) rfl TM;simp only[Code.region.injEq] at hcd;obtain⟨_,rfl,rfl⟩:=hcd;refine wpSIn_region ?_;rcases C3:os.toList with _|⟨o,ZC⟩
     ·rw[C3] at hos;simp at hos
     ·rw[C3] at hos;simp only[List.map_cons,List.cons.injEq] at hos;obtain⟨lM,hgd,c0,Ud,QF⟩:=Of hos.1;have hsz:os.size=ZC.length+1:=by rw[←Array.length_toList,C3];rfl
      have h0:os[0]?=some o:=by rw[←Array.getElem?_toList,C3];rfl
      rw[hsz,List.range_eq_range',List.range'_succ];unfold wpOpsSIn;rw[h0];simp only;refine⟨fun _ _=>trivial,?_⟩;rw[if_pos (by simp[Region.wanted,hgd])];have hrun:(execOp (Act.eval {tmps:=(aq ρ args).toArray++Array.replicate (fn.ntmps-(aq ρ args).toArray.size) Go.undef,defers:=[]}) o).run P w=.ok .recover w:=by
       unfold execOp;rw[Ud];simp[resolve,QF,Sem.run_bind,Result.andThen,invoke,builtin]
      rw[hrun];simp only;have htb:vD fn.ntmps (some t)=true:=by
       have:=zG.1;simp only[cV,z8,Bool.and_eq_true] at this;exact this.1
      have Zd:cV fn.ntmps l2=true:=by
       have:=zG.1;simp only[cV,Bool.and_eq_true] at this;exact this.2
      have Bj:∀v,v=real ρ (oB x)→wpOpsSIn Fence.wide n P os (Exit.thenS (c2.wpSIn Fence.wide n P (bodyPostS P fn c₀ cs R)) (bodyPostS P fn c₀ cs R)) (List.range' (0+1) ZC.length) (Act.put {tmps:=(aq ρ args).toArray++Array.replicate (fn.ntmps-(aq ρ args).toArray.size) Go.undef,defers:=[]} o.dst v) ({c₀ with mode:=u'}::cs) w:=by
       rintro v rfl;rw[lM];refine yT (fun _=>trivial) (k:=0+1) (fun j hj=>?_) kz hos.2 j5 Zd (he.put htb Rn) (fun a' k1 k2=>?_)
       ·rw[←Array.getElem?_toList,C3,show 0+1+j=j+1 by omega,List.getElem?_cons_succ]
       ·exact tF c2 gy.2 zG.2 a' k1 k2
      rcases IL with IL|⟨IL,hni,hu'⟩
      ·rw[IL];exact Bj _ rfl
      ·rw[IL];simp only;have:=Bj .nilIface hni.symm;rw[hu'] at this;exact this
    |_=>intro TM;obtain⟨_,_,hcd,_⟩:=dV rfl TM;simp at hcd
   exact Bq c1 gy.1
  |_=>intro gy zG;obtain⟨_,_,hcd,_⟩:=fL rfl gy;simp at hcd
 rw[hbody] at hok;exact hcb c hbody hok
theorem Gu{fs:Nat→Option ak}{ms:Nat→String→Option Nat}(sys:om P fs ms){f:Nat}{args:List AV}{af:ak}{A rest:AC}{l1:List bF}{dst:Option Nat}{r:bG}{e1 e2 e3:Env}{h2 h3:Heap}{tr:List aM}{g:Nat}{first aL:List AV}{ag:ak}{x y:AX}{t:Nat}{l2:List bF}{iA:AC}{PG:List aM}{e4 e5:Env}{h5:Heap}{vs:List AV}
  (hf:fs f=some af)(hlen:args.length≤af.ntmps)(Io:af.body=.seq A (.seq (.ops (l1++[qF dst r])) rest))(hA:bM P H0 false A (Env.start af.ntmps args) h .normal e1 h1)(FP:bC A=true)(Eg:OT P H0 l1 e1 h1 tr e2 h2)(hr:e2.ev r=.func (.func g) first aL)
  (kN:bM P H0 false rest (e2.put dst .undef) h2 x e3 h3)(hx:x=.normal∨x=.ret∨∃v,x=.panic v)
  (hg:fs g=some ag)(Bi:(first++aL).length≤ag.ntmps)(hbody:ag.body=.seq (.ops (z8 t::l2)) iA)(Bl:ag.results=[])(GP:bC iA=true)
  (kz:OT P H0 l2 ((Env.start ag.ntmps (first++aL)).put (some t) (oB x)) h3 PG e4 h3)(j5:nS l2=true)(IM:bM P H0 false iA e4 h3 y e5 h5)(hy:y=.normal∨y=.ret)
  (tG:∀(args:Array Value) (w:World),(callFunc g args).run P w=.ok (.enter g args) w)
  (hres:ju e3 h5 af.results=some vs):ga P H0 f args h (dP vs) h5:=by
 obtain⟨fn,hfn,CX⟩:=sys.CP f af hf;obtain⟨c,rs,hb,FV,hname,hok,rfl⟩:=ia CX;simp only at hlen Io hres;intro ρ D w n hi hd;refine callsIn_of_wp_marks hfn hb trivial ?_;have he:=mW (ρ:=ρ) hd hlen;rw[Io] at hok;simp only[codeOk,Bool.and_eq_true] at hok;obtain⟨Ze,Q1,Zf⟩:=hok;rw[qc,Bool.and_eq_true] at Q1;have TX:vD fn.ntmps dst=true:=by
  have:=Q1.2;simp only[cV,qF,Bool.and_true] at this;exact this
 generalize TF:(fun(e:Ending) (w':World)=>∃ρ',e=.returned (real ρ' (dP vs))∧Inv P H0 ρ' (grow D h.next h5.next) h5 w'∧Ext ρ D h w ρ' h5 w'∧(dP vs).aX (grow D h.next h5.next))=R;have Ed:∀l a w,¬bodyPostM Fence.wide n P fn R (.goto l) a w:=fun l a w hh=>hh;have Nf:∀(code:Code),aD P code=rest→∀(iU:cE) (w2:World) (a2:Act),Inv P H0 iU (grow D h.next h2.next) h2 w2→Ext ρ D h w iU h2 w2→bI iU (grow D h.next h2.next) fn.ntmps (e2.put dst .undef) a2→
   bl (grow D h.next h2.next) first→bl (grow D h.next h2.next) aL→
   a2.defers=[{target:=.fn (.func g) (aq iU aL).toArray,args:=(aq iU first).toArray}]→code.wpIn Fence.wide n P (bodyPostM Fence.wide n P fn R) a2 w2:=by
  intro code gy iU w2 a2 i2 x2 Pf Wp Bd TQ;have hm2:jC a2.defers w2.heap.size iU (grow D h.next h2.next) h2 w2 a2.defers:=⟨[],rfl,List.nodup_nil,fun r hr=>by simp at hr⟩;refine Code.wpIn_mono ?_ (kN code gy fn.ntmps Zf none rfl iU _ w2 a2 w2.heap.size n a2.defers i2 Pf hm2 (Nat.le_refl _));rintro ex a3 w3 ⟨SY,hex,i3,x3,ei3,m3,_⟩;have Is:=dG D x2.next x3.next;have Rn:(oB x).aX (grow (grow D h.next h2.next) h2.next h3.next):=by
   rcases hx with rfl|rfl|⟨v,rfl⟩
   ·simp[oB,AV.aX]
   ·simp[oB,AV.aX]
   ·exact hex.2
  have jo:LeavesInM Fence.wide n P fn a3.tmps R a3.defers (mH SY x) w3:=by
   refine mu (u:=mH SY x) (by rcases hx with rfl|rfl|⟨v,rfl⟩<;>simp[mH]) i3 x3 m3 ?_;intro w4 i4 x4;rw[TQ];have hargs:aq iU first=aq SY first:=(eE (fun b hb=>x4.bA b hb) first Wp).symm
   have TK:aq iU aL=aq SY aL:=(eE (fun b hb=>x4.bA b hb) aL Bd).symm;rw[hargs,TK];refine⟨by rcases hx with rfl|rfl|⟨v,rfl⟩<;>simp[mH],.inr ⟨fun hh=>by simp[Fence.wide] at hh,.func g,(aq SY aL).toArray,g,(aq SY (first++aL)).toArray,rfl,?_,fun _ _=>trivial,?_⟩⟩
   ·simp only[invoke,tG]
    congr 2
    simp[ir]
   ·have hda:bl (grow (grow D h.next h2.next) h2.next h3.next) (first++aL):=by
     rw[aR];intro z hz;rcases List.mem_append.1 hz with hz|hz
     ·exact cK (fun b hb=>.inl hb) _ ((aR _ _).1 Wp z hz)
     ·exact cK (fun b hb=>.inl hb) _ ((aR _ _).1 Bd z hz)
    refine B6 sys hg Bi hbody Bl GP kz j5 IM hy i4 hda Rn ?_;intro ZP v u' w5 iS i5 x5;show LeavesInM Fence.wide n P fn a3.tmps R [] (settle u') w5;rw[iS];have Uo:=Ext.trans i2.lt x4 x5;have T2:=dG (grow D h.next h2.next) x3.next x5.next;rw[T2] at i5;have T1:=dG D x2.next Uo.next;rw[T1] at i5;have ei5:bI ZP (grow D h.next h5.next) fn.ntmps e3 a3:=by
     have:=ei3.mono (ρ':=ZP) (D':=grow (grow (grow D h.next h2.next) h2.next h3.next) h3.next h5.next) x5.bA (fun _=>.inl);rw[T2,T1] at this;exact this
    have hrun:=kY (P:=P) (fn:=fn) ei5 i5 FV hres;refine⟨_,hrun.1,?_⟩;rw[←TF];exact⟨ZP,rfl,i5,Ext.trans hi.lt x2 Uo,hrun.2⟩
  rcases hx with rfl|rfl|⟨v,rfl⟩
  ·have hex:ex=.normal:=hex;subst hex;exact jo
  ·have hex:ex=.ret:=hex;subst hex;exact jo
  ·obtain⟨hex,_⟩:=hex;subst hex;exact jo
 have Nl:∀(code:Code),aD P code=.ops (l1++[qF dst r])→∀(c3:Code),aD P c3=rest→∀(pN:cE) (w1:World) (a1:Act),Inv P H0 pN (grow D h.next h1.next) h1 w1→Ext ρ D h w pN h1 w1→bI pN (grow D h.next h1.next) fn.ntmps e1 a1→
   a1.defers=[]→code.wpIn Fence.wide n P (Exit.then (c3.wpIn Fence.wide n P (bodyPostM Fence.wide n P fn R)) (bodyPostM Fence.wide n P fn R)) a1 w1:=by
  intro code;induction code with
  |scope c' ih=>
   intro gy c3 YR pN w1 a1 i1 x1 FE Cl;exact lU (fun l a w hh=>hh) (ih (by simpa[aD] using gy) c3 YR pN w1 a1 i1 x1 FE Cl)
  |region id os draw=>
   intro gy c3 YR pN w1 a1 i1 x1 FE Cl;obtain⟨id',os',hcd,hos⟩:=dV (code:=.region id os draw) rfl gy;simp only[Code.region.injEq] at hcd;obtain⟨_,rfl,rfl⟩:=hcd;refine wpIn_region_list ?_;have hsplit:os.toList=os.toList.take l1.length++os.toList.drop l1.length:=(List.take_append_drop _ _).symm;have hpre:(os.toList.take l1.length).map (bE P os)=l1:=by rw[List.map_take,hos];simp
   have IT:(os.toList.drop l1.length).map (bE P os)=[qF dst r]:=by rw[List.map_drop,hos];simp
   rw[hsplit];refine qf (ro:=none) Eg hpre Q1.1 i1 FE ?_;intro iU w2 a2 i2 x2 Pf TQ;have Is:=dG D x1.next x2.next;rw[Is] at i2 Pf;have x12:=Ext.trans hi.lt x1 x2;rcases C3:os.toList.drop l1.length with _|⟨o,ZC⟩
   ·rw[C3] at IT;simp at IT
   ·rw[C3] at IT;simp only[List.map_cons,List.cons.injEq,List.map_eq_nil_iff] at IT;obtain⟨hc0,rfl⟩:=IT;obtain⟨lM,hgd,cl,f0,Ud,QF,hca,hrf⟩:=HK hc0;have Bf:=aF Pf hrf;rw[hr] at Bf;simp only[AV.aX] at Bf;unfold wpListIn;rw[if_pos (by simp[Region.wanted,hgd])];refine⟨fun _ _=>trivial,?_⟩;have hrun:(Oper.semAt none a2.eval o).run P w2=.ok (.defer {target:=.fn (.func g) (aq iU aL).toArray,args:=(aq iU first).toArray}) w2:=by
     rw[Oper.semAt_none];unfold execOp;rw[Ud];have hargs:cl.args.map a2.eval=#[]:=by
      apply Array.ext';simp[hca]
     simp[resolve,QF,Bf.1,real,Deferred.ofValue,hargs,Sem.run_bind,Result.andThen]
    show o.uponIn Fence.wide n P a2 _ _ ((Oper.semAt none a2.eval o).run P w2);rw[hrun];rw[Oper.uponIn_defer];unfold wpListIn;show c3.wpIn Fence.wide n P (bodyPostM Fence.wide n P fn R) _ _;refine Nf c3 YR iU w2 _ i2 x12 ?_ Bf.2.2.1 Bf.2.2.2 ?_
    ·have Yq:bI iU (grow D h.next h2.next) fn.ntmps e2 {a2 with defers:={target:=.fn (.func g) (aq iU aL).toArray,args:=(aq iU first).toArray}::a2.defers}:=⟨Pf.size,Pf.get,Pf.dom⟩;have:=Yq.put (d:=dst) (v:=.undef) TX (by simp[AV.undef,AV.aX,bl]);rw[fO,←lM] at this;rw[←lM];exact this
    ·have QJ:a2.defers=[]:=TQ.trans Cl;have:∀(a:Act) (d:Option Nat) (v:Value),(a.put d v).defers=a.defers:=by intro a d v;cases d<;>rfl
     rw[this];simp[QJ]
  |_=>intro gy;obtain⟨_,_,hcd,_⟩:=dV rfl gy;simp at hcd
 have Uk:∀(code:Code),aD P code=.seq (.ops (l1++[qF dst r])) rest→∀(pN:cE) (w1:World) (a1:Act),Inv P H0 pN (grow D h.next h1.next) h1 w1→Ext ρ D h w pN h1 w1→bI pN (grow D h.next h1.next) fn.ntmps e1 a1→
   a1.defers=[]→code.wpIn Fence.wide n P (bodyPostM Fence.wide n P fn R) a1 w1:=by
  intro code;induction code with
  |scope c' ih=>
   intro gy pN w1 a1 i1 x1 FE Cl;exact lU Ed (ih (by simpa[aD] using gy) pN w1 a1 i1 x1 FE Cl)
  |seq c1 c2 _ _=>
   intro gy pN w1 a1 i1 x1 FE Cl;simp only[aD,AC.seq.injEq] at gy;exact wpIn_seq (Nl c1 gy.1 c2 gy.2 pN w1 a1 i1 x1 FE Cl)
  |_=>intro gy;obtain⟨_,_,hcd,_⟩:=fL rfl gy;simp at hcd
 have Rm:∀(code:Code),aD P code=.seq A (.seq (.ops (l1++[qF dst r])) rest)→
   code.wpIn Fence.wide n P (bodyPostM Fence.wide n P fn R) {tmps:=(aq ρ args).toArray++Array.replicate (fn.ntmps-(aq ρ args).toArray.size) Go.undef,defers:=[]} w:=by
  intro code;induction code with
  |scope c' ih=>
   intro gy;exact lU Ed (ih (by simpa[aD] using gy))
  |seq c1 c2 _ _=>
   intro gy;simp only[aD,AC.seq.injEq] at gy;refine wpIn_seq ?_;have hm:jC [] w.heap.size ρ D h w ([]:List Deferred):=⟨[],rfl,List.nodup_nil,fun r hr=>by simp at hr⟩;refine Code.wpIn_mono ?_ (hA c1 gy.1 fn.ntmps Ze none rfl ρ D w _ w.heap.size n [] hi he hm (Nat.le_refl _));rintro ex a1 w1 ⟨pN,hex,i1,x1,FE,m1,Cl⟩;have hex:ex=.normal:=hex;subst hex;exact Uk c2 gy.2 pN w1 a1 i1 x1 FE (Cl FP)
  |_=>intro gy;obtain⟨_,_,hcd,_⟩:=fL rfl gy;simp at hcd
 exact Rm c Io
end
end Ads
end Go.Proofs.YtnlcabhfkpafmaaGreat
