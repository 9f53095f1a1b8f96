/-
  What big steps mean in the model: a function that defers a closure which recovers.
-/
import Derived.Test.YtnlcabhfkpafmaaGreatAdsCall
import Derived.RecoverIn
set_option linter.unusedSimpArgs false
set_option linter.unusedVariables false
namespace Go.Proofs.YtnlcabhfkpafmaaGreat
namespace Ads
section
variable {P:Program} {H0 W0:Nat} {ρ ρ':cI} {D D':Dom} {h h' h1:Heap} {w w':World} {N n:Nat} {env e e':Env} {a:Act} {ro:Option Nat} {rd:Bool}
theorem sC{ops:Array Oper}{o:Oper}{i:bu}{as:List bE}(hc:bF P ops o=i)(hop:i.op=.bad)(has:i.args=as)(hl:as.length=4):vb o=as∧i.dst=o.dst:=by
 unfold bF at hc;simp only at hc;split at hc
 ·rename_i g op as' hg gu;subst hc;simp only at hop has;subst hop has;have:=IA gu;omega
 ·subst hc;exact⟨has,rfl⟩
theorem IE{ops:Array Oper}{o:Oper}{dst:Option Nat}{r:bE}(hc:bF P ops o=pe dst r):o.dst=dst∧o.guard=none∧∃c f,o.op=.defer c∧c.callee=.value f∧c.args.toList=[]∧dD f=some r:=by
 obtain⟨h1,h2⟩:=sC (as:=[.c (.bool true),r,r,r]) hc rfl rfl rfl;refine⟨h2.symm,?_⟩;unfold vb at h1;split at h1
 ·rename_i c hg ho;split at h1
  ·rename_i f hcb hca;split at h1
   ·rename_i r' hr;simp only[List.cons.injEq,and_true,true_and] at h1;exact⟨hg,c,f,ho,hcb,hca,by rw[hr,h1.1]⟩
   ·simp at h1
  ·simp at h1
 ·split at h1
  ·simp at h1
  ·simp at h1
 ·simp at h1
theorem Ow{ops:Array Oper}{o:Oper}{t:Nat}(hc:bF P ops o=xY t):o.dst=some t∧o.guard=none∧∃c,o.op=.call c∧c.callee=.builtin .recover:=by
 obtain⟨h1,h2⟩:=sC (as:=[.c (.bool false),.c (.bool false),.c (.bool false),.c (.bool false)]) hc rfl rfl rfl;refine⟨h2.symm,?_⟩;unfold vb at h1;split at h1
 ·split at h1
  ·split at h1
   ·simp at h1
   ·simp at h1
  ·simp at h1
 ·rename_i c hg ho;split at h1
  ·rename_i hcb;exact⟨hg,c,ho,hcb⟩
  ·simp at h1
 ·simp at h1
theorem uQ{F:Fence}{Q:Exit→Act→List Frame→World→Prop}{cs:List Frame}{c:Code}(hq:∀l a cs w,¬Q (.goto l) a cs w)(h:c.wpSIn F n P Q a cs w):(Code.scope c).wpSIn F n P Q a cs w:=by
 intro b k ZZ hro hb hr;obtain⟨e,a₁,cs₁,w₁,hl,nw,gK⟩:=h b (.inScope c::k) ZZ hro hb hr;have s0:step P (lone (b.atR a (.code (.scope c)::k)) cs w)=.next (lone (b.atR a (.code c::.inScope c::k)) cs w):=
  step_lone_go (by simp[stepG,stepG.exec,Frame.atR])
 have s1:∀(a:Act) (cs:List Frame) (w:World),step P (lone (b.atR a (.inScope c::k)) cs w)=.next (lone (b.atR a k) cs w):=fun a cs w=>
  step_lone_go (by simp[stepG,stepG.exec,Frame.atR])
 have f0:(lone (b.atR a (.code (.scope c)::k)) cs w).fenced P F:=fenced_calm hb hr rfl;have hs:StepsIn (Machine.fenced P F) P (lone (b.atR a (.code (.scope c)::k)) cs w) (lone (b.atR a (.code c::.inScope c::k)) cs w):=.one f0 s0;cases e with
 |normal=>exact⟨.normal,a₁,cs₁,w₁,hl,nw,hs.trans (StepsIn.trans gK (.one (fenced_calm (fr:=b.atR a₁ (.inScope c::k)) hb (hl▸hr) rfl) (s1 a₁ cs₁ w₁)))⟩
 |exit id=>
  refine⟨.exit id,a₁,cs₁,w₁,hl,nw,fun k' hk=>hs.trans (gK.1 k' (by simp[exitTo,hk])),fun hr hk=>?_⟩;obtain⟨k₁,h1,h2⟩:=gK.2 hr (by simp[exitTo,hk]);exact⟨k₁,h1,hs.trans h2⟩
 |goto l=>exact absurd nw (hq l a₁ cs₁ w₁)
 |ret=>exact⟨_,a₁,cs₁,w₁,hl,nw,fun hr=>let⟨todo,h1⟩:=gK.1 hr;⟨todo,hs.trans h1⟩,fun hr=>let⟨k₁,h1⟩:=gK.2 hr;⟨k₁,hs.trans h1⟩⟩
 |panic ch=>obtain⟨todo,h1⟩:=gK;exact⟨_,a₁,cs₁,w₁,hl,nw,todo,hs.trans h1⟩
 |outgrown=>exact⟨_,a₁,cs₁,w₁,hl,nw,gK.imp id (Outgrown.of_steps hs.steps)⟩
theorem y7{F:Fence}{Q:Exit→Act→List Frame→World→Prop}{cs:List Frame}(hF:∀f,F.fn f){ops:Array Oper}:∀{os:List Oper} {k:Nat},(∀j,j<os.length→ops[k+j]?=os[j]?)→∀{l:List bu} {e:Env} {tr:List aJ} {e':Env},OT P H0 l e h tr e' h→
  os.map (bF P ops)=l→mo l=true→de N l=true→∀{a:Act},bI ρ D N e a→
  (∀a',bI ρ D N e' a'→a'.defers=a.defers→Q .normal a' cs w)→wpOpsSIn F n P ops Q (List.range' k os.length) a cs w
 |[],k,pH,l,e,tr,e',kN,hos,kO,hok,a,he,hk=>by
  simp only[List.map_nil] at hos;subst hos;cases tr with
  |cons m tr=>simp[OT] at kN
  |nil=>
   simp only[OT] at kN;obtain⟨rfl,_⟩:=kN;exact hk a he rfl
 |o::os,k,pH,l,e,tr,e',kN,hos,kO,hok,a,he,hk=>by
  simp only[List.map_cons] at hos;subst hos;cases tr with
  |nil=>simp[OT] at kN
  |cons m tr=>
   have h0:ops[k]?=some o:=by have:=pH 0 (by simp);simpa using this
   obtain⟨q,hq⟩:∃q,bF P ops o=q:=⟨_,rfl⟩;rw[hq] at kN kO hok;obtain⟨qd,qg,qop,PO⟩:=q;have l8:=(cP hq).1;simp only[de,Bool.and_eq_true] at hok;simp only[mo,Bool.and_eq_true] at kO;simp only[OT] at kN;obtain⟨BG,yM,kN⟩:=kN;simp only at l8;cases qop<;>cases qg<;>simp at kO
   rename_i p;rcases kN with⟨fI,hw,hv,kW⟩|⟨fI,hw,h1,hop,kW⟩
   ·simp[bN] at hw
   ·obtain⟨hp,GD⟩:=hop;rw[GD] at kW;have hc:=((cP hq).2 (.inl (by simp))).1;simp only at hc;have iO:=ez hq (.inl (by simp)) he;rw[yM] at hp;have hpi:=wL (w:=w) he hc hp;rw[List.length_cons,List.range'_succ];unfold wpOpsSIn;rw[h0];simp only;refine⟨fun f _=>hF f,?_⟩;rw[if_pos (by rw[iO,hw]),hpi.1];simp only;rw[←l8];refine y7 hF (k:=k+1) (fun j hj=>?_) kW rfl kO hok.2 (he.put hok.1 hpi.2) (fun a' g1 g2=>hk a' g1 (g2.trans (by cases qd<;>rfl)));have:=pH (j+1) (by simp only[List.length_cons];omega);rw[show k+1+j=k+(j+1) by omega,this,List.getElem?_cons_succ]
def m5(ρ:cI):AX→FrameMode
 |.panic v=>.panicking [{v:=real ρ v,recovered:=false}]
 |_=>.returning
theorem Cg{ρ:cI}{x:AX}{c₀:Frame}{cs:List Frame}(hm:c₀.mode=m5 ρ x):
  ∃u',settle u'=.returning∧((recoverD (c₀::cs)=some (real ρ (oC x),{c₀ with mode:=u'}::cs))∨(recoverD (c₀::cs)=none∧real ρ (oC x)=.nilIface∧u'=c₀.mode)):=by
 cases x with
 |panic v=>exact⟨.panicking [{v:=real ρ v,recovered:=true}],rfl,.inl (by simp[recoverD,hm,m5,oC])⟩
 |normal=>exact⟨.returning,rfl,.inr ⟨by simp[recoverD,hm,m5],by simp[oC,real],by rw[hm];rfl⟩⟩
 |ret=>exact⟨.returning,rfl,.inr ⟨by simp[recoverD,hm,m5],by simp[oC,real],by rw[hm];rfl⟩⟩
 |exit id=>exact⟨.returning,rfl,.inr ⟨by simp[recoverD,hm,m5],by simp[oC,real],by rw[hm];rfl⟩⟩
theorem Cl{fs:Nat→Option aq}{ms:Nat→String→Option Nat}(sys:lS P fs ms){g:Nat}{args:List AV}{ag:aq}{x y:AX}{t:Nat}{l2:List bu}{eu:AC}{D4:List aJ}{e4 e5:Env}{h5:Heap}
  (hg:fs g=some ag)(hlen:args.length≤ag.ntmps)(hbody:ag.body=.seq (.ops (xY t::l2)) eu)(hres:ag.results=[])(HH:aX eu=true)
  (kN:OT P H0 l2 ((Env.start ag.ntmps args).put (some t) (oC x)) h D4 e4 h)(kO:mo l2=true)(kW:bD P H0 false eu e4 h y e5 h5)(hy:y=.normal∨y=.ret)
  {R:Ending→FrameMode→World→Prop}(hi:Inv P H0 ρ D h w)(hd:bh D args)(RB:(oC x).aV D)
  (hk:∀ρ' v u' w',settle u'=.returning→Inv P H0 ρ' (grow D h.next h5.next) h5 w'→Ext ρ D h w ρ' h5 w'→R (.returned v) u' w'):
  CallsDIn Fence.wide n P g (an ρ args).toArray (m5 ρ x) w R:=by
 obtain⟨fn,hfn,Dh⟩:=sys.z3 g ag hg;obtain⟨c,rs,hb,hr,hname,hok,rfl⟩:=ij Dh;simp only at hlen hbody hres;refine callsDIn_of_wpSIn hfn hb trivial ?_;intro c₀ cs hm;have he:=nq (ρ:=ρ) hd hlen;obtain⟨u',iY,JH⟩:=Cg (cs:=cs) hm;have EL:∀l a cs' w,¬bodyPostS P fn c₀ cs R (.goto l) a cs' w:=fun l a cs' w hh=>hh;have tX:∀(code:Code),aB P code=eu→codeOk fn.ntmps eu=true→∀(a:Act),bI ρ D fn.ntmps e4 a→a.defers=[]→
   code.wpSIn Fence.wide n P (bodyPostS P fn c₀ cs R) a ({c₀ with mode:=u'}::cs) w:=by
  intro code gu z8 a Q0 had;refine wpSIn_of_wpIn rfl ?_;have hm0:jC [] w.heap.size ρ D h w a.defers:=⟨[],by rw[had];rfl,List.nodup_nil,fun r hr=>by simp at hr⟩;refine Code.wpIn_mono ?_ (kW code gu fn.ntmps z8 none rfl ρ D w a w.heap.size n [] hi Q0 hm0 (Nat.le_refl _));rintro ex a' w' ⟨ρ',hex,g1,g2,g3,g4,g5⟩;have UA:=(g5 HH).trans had;have hrun:=lB (P:=P) (fn:=fn) (vs:=[]) g3 g1 hr (by rw[hres];rfl);rcases hy with rfl|rfl
  ·have hex:ex=.normal:=hex;subst hex;exact⟨UA,u',rfl,_,hrun.1,hk ρ' _ u' w' iY g1 g2⟩
  ·have hex:ex=.ret:=hex;subst hex;exact⟨UA,u',rfl,_,hrun.1,hk ρ' _ u' w' iY g1 g2⟩
 have hcb:∀(code:Code),aB P code=.seq (.ops (xY t::l2)) eu→codeOk fn.ntmps (.seq (.ops (xY t::l2)) eu)=true→
   code.wpSIn Fence.wide n P (bodyPostS P fn c₀ cs R) {tmps:=(an ρ args).toArray++Array.replicate (fn.ntmps-(an ρ args).toArray.size) Go.undef,defers:=[]} (c₀::cs) w:=by
  intro code;induction code with
  |scope c' ih=>
   intro gu z8;exact uQ EL (ih (by simpa[aB] using gu) z8)
  |seq c1 c2 _ _=>
   intro gu z8;simp only[aB,AC.seq.injEq] at gu;simp only[codeOk,Bool.and_eq_true] at z8;refine wpSIn_seq ?_;have BI:∀(code:Code),aB P code=.ops (xY t::l2)→
     code.wpSIn Fence.wide n P (Exit.thenS (c2.wpSIn Fence.wide n P (bodyPostS P fn c₀ cs R)) (bodyPostS P fn c₀ cs R)) {tmps:=(an ρ args).toArray++Array.replicate (fn.ntmps-(an ρ args).toArray.size) Go.undef,defers:=[]} (c₀::cs) w:=by
    intro code;induction code with
    |scope c' ih=>
     intro gu;exact uQ (fun l a cs' w hh=>hh) (ih (by simpa[aB] using gu))
    |region id os draw=>
     intro Uu;obtain⟨id',os',hcd,hos⟩:=dY (code:=.region id os draw) rfl Uu;simp only[Code.region.injEq] at hcd;obtain⟨_,rfl,rfl⟩:=hcd;refine wpSIn_region ?_;rcases vj:os.toList with _|⟨o,os1⟩
     ·rw[vj] at hos;simp at hos
     ·rw[vj] at hos;simp only[List.map_cons,List.cons.injEq] at hos;obtain⟨l8,hgd,c0,UZ,QV⟩:=Ow hos.1;have hsz:os.size=os1.length+1:=by rw[←Array.length_toList,vj];rfl
      have h0:os[0]?=some o:=by rw[←Array.getElem?_toList,vj];rfl
      rw[hsz,List.range_eq_range',List.range'_succ];unfold wpOpsSIn;rw[h0];simp only;refine⟨fun _ _=>trivial,?_⟩;rw[if_pos (by simp[Region.wanted,hgd])];have hrun:(execOp (Act.eval {tmps:=(an ρ args).toArray++Array.replicate (fn.ntmps-(an ρ args).toArray.size) Go.undef,defers:=[]}) o).run P w=.ok .recover w:=by
       unfold execOp;rw[UZ];simp[resolve,QV,Sem.run_bind,Result.andThen,invoke,builtin]
      rw[hrun];simp only;have htb:vK fn.ntmps (some t)=true:=by
       have:=z8.1;simp only[de,xY,Bool.and_eq_true] at this;exact this.1
      have Z9:de fn.ntmps l2=true:=by
       have:=z8.1;simp only[de,Bool.and_eq_true] at this;exact this.2
      have BB:∀v,v=real ρ (oC x)→wpOpsSIn Fence.wide n P os (Exit.thenS (c2.wpSIn Fence.wide n P (bodyPostS P fn c₀ cs R)) (bodyPostS P fn c₀ cs R)) (List.range' (0+1) os1.length) (Act.put {tmps:=(an ρ args).toArray++Array.replicate (fn.ntmps-(an ρ args).toArray.size) Go.undef,defers:=[]} o.dst v) ({c₀ with mode:=u'}::cs) w:=by
       rintro v rfl;rw[l8];refine y7 (fun _=>trivial) (k:=0+1) (fun j hj=>?_) kN hos.2 kO Z9 (he.put htb RB) (fun a' k1 k2=>?_)
       ·rw[←Array.getElem?_toList,vj,show 0+1+j=j+1 by omega,List.getElem?_cons_succ]
       ·exact tX c2 gu.2 z8.2 a' k1 k2
      rcases JH with JH|⟨JH,hni,hu'⟩
      ·rw[JH];exact BB _ rfl
      ·rw[JH];simp only;have:=BB .nilIface hni.symm;rw[hu'] at this;exact this
    |_=>intro Uu;obtain⟨_,_,hcd,_⟩:=dY rfl Uu;simp at hcd
   exact BI c1 gu.1
  |_=>intro gu z8;obtain⟨_,_,hcd,_⟩:=fN rfl gu;simp at hcd
 rw[hbody] at hok;exact hcb c hbody hok
theorem Hh{fs:Nat→Option aq}{ms:Nat→String→Option Nat}(sys:lS P fs ms){f:Nat}{args:List AV}{af:aq}{A rest:AC}{l1:List bu}{dst:Option Nat}{r:bE}{e1 e2 e3:Env}{h2 h3:Heap}{tr:List aJ}{g:Nat}{first aF:List AV}{ag:aq}{x y:AX}{t:Nat}{l2:List bu}{eu:AC}{D4:List aJ}{e4 e5:Env}{h5:Heap}{vs:List AV}
  (hf:fs f=some af)(hlen:args.length≤af.ntmps)(GB:af.body=.seq A (.seq (.ops (l1++[pe dst r])) rest))(hA:bD P H0 false A (Env.start af.ntmps args) h .normal e1 h1)(EN:aX A=true)(HG:OT P H0 l1 e1 h1 tr e2 h2)(hr:e2.ev r=.func (.func g) first aF)
  (kW:bD P H0 false rest (e2.put dst .undef) h2 x e3 h3)(hx:x=.normal∨x=.ret∨∃v,x=.panic v)
  (hg:fs g=some ag)(BA:(first++aF).length≤ag.ntmps)(hbody:ag.body=.seq (.ops (xY t::l2)) eu)(BD:ag.results=[])(HH:aX eu=true)
  (kN:OT P H0 l2 ((Env.start ag.ntmps (first++aF)).put (some t) (oC x)) h3 D4 e4 h3)(kO:mo l2=true)(JI:bD P H0 false eu e4 h3 y e5 h5)(hy:y=.normal∨y=.ret)
  (tZ:∀(args:Array Value) (w:World),(callFunc g args).run P w=.ok (.enter g args) w)
  (hres:gD e3 h5 af.results=some vs):gE P H0 f args h (cX vs) h5:=by
 obtain⟨fn,hfn,Dh⟩:=sys.z3 f af hf;obtain⟨c,rs,hb,Dp,hname,hok,rfl⟩:=ij Dh;simp only at hlen GB hres;intro ρ D w n hi hd;refine callsIn_of_wp_marks hfn hb trivial ?_;have he:=nq (ρ:=ρ) hd hlen;rw[GB] at hok;simp only[codeOk,Bool.and_eq_true] at hok;obtain⟨aab,Rh,aac⟩:=hok;rw[qD,Bool.and_eq_true] at Rh;have UB:vK fn.ntmps dst=true:=by
  have:=Rh.2;simp only[de,pe,Bool.and_true] at this;exact this
 generalize Uj:(fun(e:Ending) (w':World)=>∃ρ',e=.returned (real ρ' (cX vs))∧Inv P H0 ρ' (grow D h.next h5.next) h5 w'∧Ext ρ D h w ρ' h5 w'∧(cX vs).aV (grow D h.next h5.next))=R;have EL:∀l a w,¬bodyPostM Fence.wide n P fn R (.goto l) a w:=fun l a w hh=>hh;have NA:∀(code:Code),aB P code=rest→∀(jd:cI) (w2:World) (a2:Act),Inv P H0 jd (grow D h.next h2.next) h2 w2→Ext ρ D h w jd h2 w2→bI jd (grow D h.next h2.next) fn.ntmps (e2.put dst .undef) a2→
   bh (grow D h.next h2.next) first→bh (grow D h.next h2.next) aF→
   a2.defers=[{target:=.fn (.func g) (an jd aF).toArray,args:=(an jd first).toArray}]→code.wpIn Fence.wide n P (bodyPostM Fence.wide n P fn R) a2 w2:=by
  intro code gu jd w2 a2 i2 x2 Pc Xm Gw Ux;have hm2:jC a2.defers w2.heap.size jd (grow D h.next h2.next) h2 w2 a2.defers:=⟨[],rfl,List.nodup_nil,fun r hr=>by simp at hr⟩;refine Code.wpIn_mono ?_ (kW code gu fn.ntmps aac none rfl jd _ w2 a2 w2.heap.size n a2.defers i2 Pc hm2 (Nat.le_refl _));rintro ex a3 w3 ⟨TA,hex,i3,x3,ei3,m3,_⟩;have Jn:=dN D x2.next x3.next;have RB:(oC x).aV (grow (grow D h.next h2.next) h2.next h3.next):=by
   rcases hx with rfl|rfl|⟨v,rfl⟩
   ·simp[oC,AV.aV]
   ·simp[oC,AV.aV]
   ·exact hex.2
  have jF:LeavesInM Fence.wide n P fn a3.tmps R a3.defers (m5 TA x) w3:=by
   refine mU (u:=m5 TA x) (by rcases hx with rfl|rfl|⟨v,rfl⟩<;>simp[m5]) i3 x3 m3 ?_;intro w4 i4 x4;rw[Ux];have hargs:an jd first=an TA first:=(eO (fun b hb=>x4.bA b hb) first Xm).symm
   have Us:an jd aF=an TA aF:=(eO (fun b hb=>x4.bA b hb) aF Gw).symm;rw[hargs,Us];refine⟨by rcases hx with rfl|rfl|⟨v,rfl⟩<;>simp[m5],.inr ⟨fun hh=>by simp[Fence.wide] at hh,.func g,(an TA aF).toArray,g,(an TA (first++aF)).toArray,rfl,?_,fun _ _=>trivial,?_⟩⟩
   ·simp only[invoke,tZ]
    congr 2
    simp[iz]
   ·have hda:bh (grow (grow D h.next h2.next) h2.next h3.next) (first++aF):=by
     rw[aP];intro z hz;rcases List.mem_append.1 hz with hz|hz
     ·exact cQ (fun b hb=>.inl hb) _ ((aP _ _).1 Xm z hz)
     ·exact cQ (fun b hb=>.inl hb) _ ((aP _ _).1 Gw z hz)
    refine Cl sys hg BA hbody BD HH kN kO JI hy i4 hda RB ?_;intro ρ5 v u' w5 iY i5 x5;show LeavesInM Fence.wide n P fn a3.tmps R [] (settle u') w5;rw[iY];have U9:=Ext.trans i2.lt x4 x5;have UJ:=dN (grow D h.next h2.next) x3.next x5.next;rw[UJ] at i5;have UI:=dN D x2.next U9.next;rw[UI] at i5;have ei5:bI ρ5 (grow D h.next h5.next) fn.ntmps e3 a3:=by
     have:=ei3.mono (ρ':=ρ5) (D':=grow (grow (grow D h.next h2.next) h2.next h3.next) h3.next h5.next) x5.bA (fun _=>.inl);rw[UJ,UI] at this;exact this
    have hrun:=lB (P:=P) (fn:=fn) ei5 i5 Dp hres;refine⟨_,hrun.1,?_⟩;rw[←Uj];exact⟨ρ5,rfl,i5,Ext.trans hi.lt x2 U9,hrun.2⟩
  rcases hx with rfl|rfl|⟨v,rfl⟩
  ·have hex:ex=.normal:=hex;subst hex;exact jF
  ·have hex:ex=.ret:=hex;subst hex;exact jF
  ·obtain⟨hex,_⟩:=hex;subst hex;exact jF
 have NJ:∀(code:Code),aB P code=.ops (l1++[pe dst r])→∀(c3:Code),aB P c3=rest→∀(qi:cI) (w1:World) (a1:Act),Inv P H0 qi (grow D h.next h1.next) h1 w1→Ext ρ D h w qi h1 w1→bI qi (grow D h.next h1.next) fn.ntmps e1 a1→
   a1.defers=[]→code.wpIn Fence.wide n P (Exit.then (c3.wpIn Fence.wide n P (bodyPostM Fence.wide n P fn R)) (bodyPostM Fence.wide n P fn R)) a1 w1:=by
  intro code;induction code with
  |scope c' ih=>
   intro gu c3 ZJ qi w1 a1 i1 x1 Gm Gx;exact mD (fun l a w hh=>hh) (ih (by simpa[aB] using gu) c3 ZJ qi w1 a1 i1 x1 Gm Gx)
  |region id os draw=>
   intro gu c3 ZJ qi w1 a1 i1 x1 Gm Gx;obtain⟨id',os',hcd,hos⟩:=dY (code:=.region id os draw) rfl gu;simp only[Code.region.injEq] at hcd;obtain⟨_,rfl,rfl⟩:=hcd;refine wpIn_region_list ?_;have hsplit:os.toList=os.toList.take l1.length++os.toList.drop l1.length:=(List.take_append_drop _ _).symm;have hpre:(os.toList.take l1.length).map (bF P os)=l1:=by rw[List.map_take,hos];simp
   have JQ:(os.toList.drop l1.length).map (bF P os)=[pe dst r]:=by rw[List.map_drop,hos];simp
   rw[hsplit];refine qF (ro:=none) HG hpre Rh.1 i1 Gm ?_;intro jd w2 a2 i2 x2 Pc Ux;have Jn:=dN D x1.next x2.next;rw[Jn] at i2 Pc;have x12:=Ext.trans hi.lt x1 x2;rcases vj:os.toList.drop l1.length with _|⟨o,os1⟩
   ·rw[vj] at JQ;simp at JQ
   ·rw[vj] at JQ;simp only[List.map_cons,List.cons.injEq,List.map_eq_nil_iff] at JQ;obtain⟨hc0,rfl⟩:=JQ;obtain⟨l8,hgd,cl,f0,UZ,QV,hca,hrf⟩:=IE hc0;have yL:=aD Pc hrf;rw[hr] at yL;simp only[AV.aV] at yL;unfold wpListIn;rw[if_pos (by simp[Region.wanted,hgd])];refine⟨fun _ _=>trivial,?_⟩;have hrun:(Oper.semAt none a2.eval o).run P w2=.ok (.defer {target:=.fn (.func g) (an jd aF).toArray,args:=(an jd first).toArray}) w2:=by
     rw[Oper.semAt_none];unfold execOp;rw[UZ];have hargs:cl.args.map a2.eval=#[]:=by
      apply Array.ext';simp[hca]
     simp[resolve,QV,yL.1,real,Deferred.ofValue,hargs,Sem.run_bind,Result.andThen]
    show o.uponIn Fence.wide n P a2 _ _ ((Oper.semAt none a2.eval o).run P w2);rw[hrun];rw[Oper.uponIn_defer];unfold wpListIn;show c3.wpIn Fence.wide n P (bodyPostM Fence.wide n P fn R) _ _;refine NA c3 ZJ jd w2 _ i2 x12 ?_ yL.2.2.1 yL.2.2.2 ?_
    ·have Zg:bI jd (grow D h.next h2.next) fn.ntmps e2 {a2 with defers:={target:=.fn (.func g) (an jd aF).toArray,args:=(an jd first).toArray}::a2.defers}:=⟨Pc.size,Pc.get,Pc.dom⟩;have:=Zg.put (d:=dst) (v:=.undef) UB (by simp[AV.undef,AV.aV,bh]);rw[fW,←l8] at this;rw[←l8];exact this
    ·have Pt:a2.defers=[]:=Ux.trans Gx;have:∀(a:Act) (d:Option Nat) (v:Value),(a.put d v).defers=a.defers:=by intro a d v;cases d<;>rfl
     rw[this];simp[Pt]
  |_=>intro gu;obtain⟨_,_,hcd,_⟩:=dY rfl gu;simp at hcd
 have U5:∀(code:Code),aB P code=.seq (.ops (l1++[pe dst r])) rest→∀(qi:cI) (w1:World) (a1:Act),Inv P H0 qi (grow D h.next h1.next) h1 w1→Ext ρ D h w qi h1 w1→bI qi (grow D h.next h1.next) fn.ntmps e1 a1→
   a1.defers=[]→code.wpIn Fence.wide n P (bodyPostM Fence.wide n P fn R) a1 w1:=by
  intro code;induction code with
  |scope c' ih=>
   intro gu qi w1 a1 i1 x1 Gm Gx;exact mD EL (ih (by simpa[aB] using gu) qi w1 a1 i1 x1 Gm Gx)
  |seq c1 c2 _ _=>
   intro gu qi w1 a1 i1 x1 Gm Gx;simp only[aB,AC.seq.injEq] at gu;exact wpIn_seq (NJ c1 gu.1 c2 gu.2 qi w1 a1 i1 x1 Gm Gx)
  |_=>intro gu;obtain⟨_,_,hcd,_⟩:=fN rfl gu;simp at hcd
 have Rz:∀(code:Code),aB P code=.seq A (.seq (.ops (l1++[pe dst r])) rest)→
   code.wpIn Fence.wide n P (bodyPostM Fence.wide n P fn R) {tmps:=(an ρ args).toArray++Array.replicate (fn.ntmps-(an ρ args).toArray.size) Go.undef,defers:=[]} w:=by
  intro code;induction code with
  |scope c' ih=>
   intro gu;exact mD EL (ih (by simpa[aB] using gu))
  |seq c1 c2 _ _=>
   intro gu;simp only[aB,AC.seq.injEq] at gu;refine wpIn_seq ?_;have hm:jC [] w.heap.size ρ D h w ([]:List Deferred):=⟨[],rfl,List.nodup_nil,fun r hr=>by simp at hr⟩;refine Code.wpIn_mono ?_ (hA c1 gu.1 fn.ntmps aab none rfl ρ D w _ w.heap.size n [] hi he hm (Nat.le_refl _));rintro ex a1 w1 ⟨qi,hex,i1,x1,Gm,m1,Gx⟩;have hex:ex=.normal:=hex;subst hex;exact U5 c2 gu.2 qi w1 a1 i1 x1 Gm (Gx EN)
  |_=>intro gu;obtain⟨_,_,hcd,_⟩:=fN rfl gu;simp at hcd
 exact Rz c GB
end
end Ads
end Go.Proofs.YtnlcabhfkpafmaaGreat
