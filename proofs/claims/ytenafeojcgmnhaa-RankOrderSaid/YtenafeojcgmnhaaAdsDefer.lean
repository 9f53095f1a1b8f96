/-
  What big steps mean in the model: a function that defers a closure which recovers.
-/
import Derived.Test.YtenafeojcgmnhaaAdsCall
import Derived.RecoverIn
set_option linter.unusedSimpArgs false
set_option linter.unusedVariables false
namespace Go.Proofs.Ytenafeojcgmnhaa
namespace Ads
section
variable {P:Program} {H0 W0:Nat} {ρ ρ':cD} {D D':Dom} {h h' h1:Heap} {w w':World} {N n:Nat} {env e e':Env} {a:Act} {ro:Option Nat} {rd:Bool}
theorem rF{ops:Array Oper}{o:Oper}{i:bq}{as:List bG}(hc:bH P ops o=i)(hop:i.op=.bad)(has:i.args=as)(hl:as.length=4):ux o=as∧i.dst=o.dst:=by
 unfold bH at hc;simp only at hc;split at hc
 ·rename_i g op as' hg eT;subst hc;simp only at hop has;subst hop has;have:=F6 eT;omega
 ·subst hc;exact⟨has,rfl⟩
theorem Ga{ops:Array Oper}{o:Oper}{dst:Option Nat}{r:bG}(hc:bH P ops o=ox dst r):o.dst=dst∧o.guard=none∧∃c f,o.op=.defer c∧c.callee=.value f∧c.args.toList=[]∧dh f=some r:=by
 obtain⟨h1,h2⟩:=rF (as:=[.c (.bool true),r,r,r]) hc rfl rfl rfl;refine⟨h2.symm,?_⟩;unfold ux at h1;split at h1
 ·rename_i c hg ho;split at h1
  ·rename_i f hcb hca;split at h1
   ·rename_i r' hr;simp only[List.cons.injEq,and_true,true_and] at h1;exact⟨hg,c,f,ho,hcb,hca,by rw[hr,h1.1]⟩
   ·simp at h1
  ·simp at h1
 ·split at h1
  ·simp at h1
  ·simp at h1
 ·simp at h1
theorem Kw{ops:Array Oper}{o:Oper}{t:Nat}(hc:bH P ops o=w6 t):o.dst=some t∧o.guard=none∧∃c,o.op=.call c∧c.callee=.builtin .recover:=by
 obtain⟨h1,h2⟩:=rF (as:=[.c (.bool false),.c (.bool false),.c (.bool false),.c (.bool false)]) hc rfl rfl rfl;refine⟨h2.symm,?_⟩;unfold ux at h1;split at h1
 ·split at h1
  ·split at h1
   ·simp at h1
   ·simp at h1
  ·simp at h1
 ·rename_i c hg ho;split at h1
  ·rename_i hcb;exact⟨hg,c,ho,hcb⟩
  ·simp at h1
 ·simp at h1
theorem uk{F:Fence}{Q:Exit→Act→List Frame→World→Prop}{cs:List Frame}{c:Code}(hq:∀l a cs w,¬Q (.goto l) a cs w)(h:c.wpSIn F n P Q a cs w):(Code.scope c).wpSIn F n P Q a cs w:=by
 intro b k Uh hro hb hr;obtain⟨e,a₁,cs₁,w₁,hl,mT,gT⟩:=h b (.inScope c::k) Uh hro hb hr;have s0:step P (lone (b.atR a (.code (.scope c)::k)) cs w)=.next (lone (b.atR a (.code c::.inScope c::k)) cs w):=
  step_lone_go (by simp[stepG,stepG.exec,Frame.atR])
 have s1:∀(a:Act) (cs:List Frame) (w:World),step P (lone (b.atR a (.inScope c::k)) cs w)=.next (lone (b.atR a k) cs w):=fun a cs w=>
  step_lone_go (by simp[stepG,stepG.exec,Frame.atR])
 have f0:(lone (b.atR a (.code (.scope c)::k)) cs w).fenced P F:=fenced_calm hb hr rfl;have hs:StepsIn (Machine.fenced P F) P (lone (b.atR a (.code (.scope c)::k)) cs w) (lone (b.atR a (.code c::.inScope c::k)) cs w):=.one f0 s0;cases e with
 |normal=>exact⟨.normal,a₁,cs₁,w₁,hl,mT,hs.trans (StepsIn.trans gT (.one (fenced_calm (fr:=b.atR a₁ (.inScope c::k)) hb (hl▸hr) rfl) (s1 a₁ cs₁ w₁)))⟩
 |exit id=>
  refine⟨.exit id,a₁,cs₁,w₁,hl,mT,fun k' hk=>hs.trans (gT.1 k' (by simp[exitTo,hk])),fun hr hk=>?_⟩;obtain⟨k₁,h1,h2⟩:=gT.2 hr (by simp[exitTo,hk]);exact⟨k₁,h1,hs.trans h2⟩
 |goto l=>exact absurd mT (hq l a₁ cs₁ w₁)
 |ret=>exact⟨_,a₁,cs₁,w₁,hl,mT,fun hr=>let⟨todo,h1⟩:=gT.1 hr;⟨todo,hs.trans h1⟩,fun hr=>let⟨k₁,h1⟩:=gT.2 hr;⟨k₁,hs.trans h1⟩⟩
 |panic ch=>obtain⟨todo,h1⟩:=gT;exact⟨_,a₁,cs₁,w₁,hl,mT,todo,hs.trans h1⟩
 |outgrown=>exact⟨_,a₁,cs₁,w₁,hl,mT,gT.imp id (Outgrown.of_steps hs.steps)⟩
theorem x8{F:Fence}{Q:Exit→Act→List Frame→World→Prop}{cs:List Frame}(hF:∀f,F.fn f){ops:Array Oper}:∀{os:List Oper} {k:Nat},(∀j,j<os.length→ops[k+j]?=os[j]?)→∀{l:List bq} {e:Env} {tr:List aK} {e':Env},OT P H0 l e h tr e' h→
  os.map (bH P ops)=l→lM l=true→cV N l=true→∀{a:Act},bJ ρ D N e a→
  (∀a',bJ ρ D N e' a'→a'.defers=a.defers→Q .normal a' cs w)→wpOpsSIn F n P ops Q (List.range' k os.length) a cs w
 |[],k,BP,l,e,tr,e',kq,hos,kL,hok,a,he,hk=>by
  simp only[List.map_nil] at hos;subst hos;cases tr with
  |cons m tr=>simp[OT] at kq
  |nil=>
   simp only[OT] at kq;obtain⟨rfl,_⟩:=kq;exact hk a he rfl
 |o::os,k,BP,l,e,tr,e',kq,hos,kL,hok,a,he,hk=>by
  simp only[List.map_cons] at hos;subst hos;cases tr with
  |nil=>simp[OT] at kq
  |cons m tr=>
   have h0:ops[k]?=some o:=by have:=BP 0 (by simp);simpa using this
   obtain⟨q,hq⟩:∃q,bH P ops o=q:=⟨_,rfl⟩;rw[hq] at kq kL hok;obtain⟨qd,qg,Vb,Lo⟩:=q;have lG:=(cI hq).1;simp only[cV,Bool.and_eq_true] at hok;simp only[lM,Bool.and_eq_true] at kL;simp only[OT] at kq;obtain⟨A0,wP,kq⟩:=kq;simp only at lG;cases Vb<;>cases qg<;>simp at kL
   rename_i p;rcases kq with⟨dY,hw,hv,kD⟩|⟨dY,hw,h1,hop,kD⟩
   ·simp[bP] at hw
   ·obtain⟨hp,uu⟩:=hop;rw[uu] at kD;have hc:=((cI hq).2 (.inl (by simp))).1;simp only at hc;have iQ:=ee hq (.inl (by simp)) he;rw[wP] at hp;have VX:=vI (w:=w) he hc hp;rw[List.length_cons,List.range'_succ];unfold wpOpsSIn;rw[h0];simp only;refine⟨fun f _=>hF f,?_⟩;rw[if_pos (by rw[iQ,hw]),VX.1];simp only;rw[←lG];refine x8 hF (k:=k+1) (fun j hj=>?_) kD rfl kL hok.2 (he.put hok.1 VX.2) (fun a' g1 g2=>hk a' g1 (g2.trans (by cases qd<;>rfl)));have:=BP (j+1) (by simp only[List.length_cons];omega);rw[show k+1+j=k+(j+1) by omega,this,List.getElem?_cons_succ]
def mD(ρ:cD):AX→FrameMode
 |.panic v=>.panicking [{v:=real ρ v,recovered:=false}]
 |_=>.returning
theorem Bv{ρ:cD}{x:AX}{c₀:Frame}{cs:List Frame}(hm:c₀.mode=mD ρ x):
  ∃u',settle u'=.returning∧((recoverD (c₀::cs)=some (real ρ (nM x),{c₀ with mode:=u'}::cs))∨(recoverD (c₀::cs)=none∧real ρ (nM x)=.nilIface∧u'=c₀.mode)):=by
 cases x with
 |panic v=>exact⟨.panicking [{v:=real ρ v,recovered:=true}],rfl,.inl (by simp[recoverD,hm,mD,nM])⟩
 |normal=>exact⟨.returning,rfl,.inr ⟨by simp[recoverD,hm,mD],by simp[nM,real],by rw[hm];rfl⟩⟩
 |ret=>exact⟨.returning,rfl,.inr ⟨by simp[recoverD,hm,mD],by simp[nM,real],by rw[hm];rfl⟩⟩
 |exit id=>exact⟨.returning,rfl,.inr ⟨by simp[recoverD,hm,mD],by simp[nM,real],by rw[hm];rfl⟩⟩
theorem BA{fs:Nat→Option aC}{ms:Nat→String→Option Nat}(sys:jc P fs ms){g:Nat}{args:List AV}{ag:aC}{x y:AX}{t:Nat}{l2:List bq}{eD:AC}{ye:List aK}{e4 e5:Env}{h5:Heap}
  (hg:fs g=some ag)(hlen:args.length≤ag.ntmps)(hbody:ag.body=.seq (.ops (w6 t::l2)) eD)(hres:ag.results=[])(Fw:aY eD=true)
  (kq:OT P H0 l2 ((Env.start ag.ntmps args).put (some t) (nM x)) h ye e4 h)(kL:lM l2=true)(kD:bF P H0 false eD e4 h y e5 h5)(hy:y=.normal∨y=.ret)
  {R:Ending→FrameMode→World→Prop}(hi:Inv P H0 ρ D h w)(hd:bg D args)(MW:(nM x).aR D)
  (hk:∀ρ' v u' w',settle u'=.returning→Inv P H0 ρ' (grow D h.next h5.next) h5 w'→Ext ρ D h w ρ' h5 w'→R (.returned v) u' w'):
  CallsDIn Fence.wide n P g (au ρ args).toArray (mD ρ x) w R:=by
 obtain⟨fn,hfn,Cp⟩:=sys.rU g ag hg;obtain⟨c,rs,hb,hr,hname,hok,rfl⟩:=iA Cp;simp only at hlen hbody hres;refine callsDIn_of_wpSIn hfn hb trivial ?_;intro c₀ cs hm;have he:=mP (ρ:=ρ) hd hlen;obtain⟨u',iU,G5⟩:=Bv (cs:=cs) hm;have DI:∀l a cs' w,¬bodyPostS P fn c₀ cs R (.goto l) a cs' w:=fun l a cs' w hh=>hh;have tq:∀(code:Code),aD P code=eD→codeOk fn.ntmps eD=true→∀(a:Act),bJ ρ D fn.ntmps e4 a→a.defers=[]→
   code.wpSIn Fence.wide n P (bodyPostS P fn c₀ cs R) a ({c₀ with mode:=u'}::cs) w:=by
  intro code eT yZ a TX had;refine wpSIn_of_wpIn rfl ?_;have hm0:jm [] w.heap.size ρ D h w a.defers:=⟨[],by rw[had];rfl,List.nodup_nil,fun r hr=>by simp at hr⟩;refine Code.wpIn_mono ?_ (kD code eT fn.ntmps yZ none rfl ρ D w a w.heap.size n [] hi TX hm0 (Nat.le_refl _));rintro ex a' w' ⟨ρ',hex,g1,g2,g3,g4,g5⟩;have PR:=(g5 Fw).trans had;have hrun:=kN (P:=P) (fn:=fn) (vs:=[]) g3 g1 hr (by rw[hres];rfl);rcases hy with rfl|rfl
  ·have hex:ex=.normal:=hex;subst hex;exact⟨PR,u',rfl,_,hrun.1,hk ρ' _ u' w' iU g1 g2⟩
  ·have hex:ex=.ret:=hex;subst hex;exact⟨PR,u',rfl,_,hrun.1,hk ρ' _ u' w' iU g1 g2⟩
 have hcb:∀(code:Code),aD P code=.seq (.ops (w6 t::l2)) eD→codeOk fn.ntmps (.seq (.ops (w6 t::l2)) eD)=true→
   code.wpSIn Fence.wide n P (bodyPostS P fn c₀ cs R) {tmps:=(au ρ args).toArray++Array.replicate (fn.ntmps-(au ρ args).toArray.size) Go.undef,defers:=[]} (c₀::cs) w:=by
  intro code;induction code with
  |scope c' ih=>
   intro eT yZ;exact uk DI (ih (by simpa[aD] using eT) yZ)
  |seq c1 c2 _ _=>
   intro eT yZ;simp only[aD,AC.seq.injEq] at eT;simp only[codeOk,Bool.and_eq_true] at yZ;refine wpSIn_seq ?_;have A2:∀(code:Code),aD P code=.ops (w6 t::l2)→
     code.wpSIn Fence.wide n P (Exit.thenS (c2.wpSIn Fence.wide n P (bodyPostS P fn c₀ cs R)) (bodyPostS P fn c₀ cs R)) {tmps:=(au ρ args).toArray++Array.replicate (fn.ntmps-(au ρ args).toArray.size) Go.undef,defers:=[]} (c₀::cs) w:=by
    intro code;induction code with
    |scope c' ih=>
     intro eT;exact uk (fun l a cs' w hh=>hh) (ih (by simpa[aD] using eT))
    |region id os draw=>
     intro PK;obtain⟨id',os',hcd,hos⟩:=dR (code:=.region id os draw) rfl PK;simp only[Code.region.injEq] at hcd;obtain⟨_,rfl,rfl⟩:=hcd;refine wpSIn_region ?_;rcases y8:os.toList with _|⟨o,U3⟩
     ·rw[y8] at hos;simp at hos
     ·rw[y8] at hos;simp only[List.map_cons,List.cons.injEq] at hos;obtain⟨lG,hgd,c0,Qo,Mo⟩:=Kw hos.1;have hsz:os.size=U3.length+1:=by rw[←Array.length_toList,y8];rfl
      have h0:os[0]?=some o:=by rw[←Array.getElem?_toList,y8];rfl
      rw[hsz,List.range_eq_range',List.range'_succ];unfold wpOpsSIn;rw[h0];simp only;refine⟨fun _ _=>trivial,?_⟩;rw[if_pos (by simp[Region.wanted,hgd])];have hrun:(execOp (Act.eval {tmps:=(au ρ args).toArray++Array.replicate (fn.ntmps-(au ρ args).toArray.size) Go.undef,defers:=[]}) o).run P w=.ok .recover w:=by
       unfold execOp;rw[Qo];simp[resolve,Mo,Sem.run_bind,Result.andThen,invoke,builtin]
      rw[hrun];simp only;have htb:uX fn.ntmps (some t)=true:=by
       have:=yZ.1;simp only[cV,w6,Bool.and_eq_true] at this;exact this.1
      have Uo:cV fn.ntmps l2=true:=by
       have:=yZ.1;simp only[cV,Bool.and_eq_true] at this;exact this.2
      have AT:∀v,v=real ρ (nM x)→wpOpsSIn Fence.wide n P os (Exit.thenS (c2.wpSIn Fence.wide n P (bodyPostS P fn c₀ cs R)) (bodyPostS P fn c₀ cs R)) (List.range' (0+1) U3.length) (Act.put {tmps:=(au ρ args).toArray++Array.replicate (fn.ntmps-(au ρ args).toArray.size) Go.undef,defers:=[]} o.dst v) ({c₀ with mode:=u'}::cs) w:=by
       rintro v rfl;rw[lG];refine x8 (fun _=>trivial) (k:=0+1) (fun j hj=>?_) kq hos.2 kL Uo (he.put htb MW) (fun a' k1 k2=>?_)
       ·rw[←Array.getElem?_toList,y8,show 0+1+j=j+1 by omega,List.getElem?_cons_succ]
       ·exact tq c2 eT.2 yZ.2 a' k1 k2
      rcases G5 with G5|⟨G5,hni,SR⟩
      ·rw[G5];exact AT _ rfl
      ·rw[G5];simp only;have:=AT .nilIface hni.symm;rw[SR] at this;exact this
    |_=>intro PK;obtain⟨_,_,hcd,_⟩:=dR rfl PK;simp at hcd
   exact A2 c1 eT.1
  |_=>intro eT yZ;obtain⟨_,_,hcd,_⟩:=fW rfl eT;simp at hcd
 rw[hbody] at hok;exact hcb c hbody hok
theorem Fe{fs:Nat→Option aC}{ms:Nat→String→Option Nat}(sys:jc P fs ms){f:Nat}{args:List AV}{af:aC}{A rest:AC}{l1:List bq}{dst:Option Nat}{r:bG}{e1 e2 e3:Env}{h2 h3:Heap}{tr:List aK}{g:Nat}{first aX:List AV}{ag:aC}{x y:AX}{t:Nat}{l2:List bq}{eD:AC}{ye:List aK}{e4 e5:Env}{h5:Heap}{vs:List AV}
  (hf:fs f=some af)(hlen:args.length≤af.ntmps)(GK:af.body=.seq A (.seq (.ops (l1++[ox dst r])) rest))(hA:bF P H0 false A (Env.start af.ntmps args) h .normal e1 h1)(DK:aY A=true)(MA:OT P H0 l1 e1 h1 tr e2 h2)(hr:e2.ev r=.func (.func g) first aX)
  (kD:bF P H0 false rest (e2.put dst .undef) h2 x e3 h3)(hx:x=.normal∨x=.ret∨∃v,x=.panic v)
  (hg:fs g=some ag)(AS:(first++aX).length≤ag.ntmps)(hbody:ag.body=.seq (.ops (w6 t::l2)) eD)(AW:ag.results=[])(Fw:aY eD=true)
  (kq:OT P H0 l2 ((Env.start ag.ntmps (first++aX)).put (some t) (nM x)) h3 ye e4 h3)(kL:lM l2=true)(G6:bF P H0 false eD e4 h3 y e5 h5)(hy:y=.normal∨y=.ret)
  (tA:∀(args:Array Value) (w:World),(callFunc g args).run P w=.ok (.enter g args) w)
  (hres:gK e3 h5 af.results=some vs):gL P H0 f args h (cR vs) h5:=by
 obtain⟨fn,hfn,Cp⟩:=sys.rU f af hf;obtain⟨c,rs,hb,Cu,hname,hok,rfl⟩:=iA Cp;simp only at hlen GK hres;intro ρ D w n hi hd;refine callsIn_of_wp_marks hfn hb trivial ?_;have he:=mP (ρ:=ρ) hd hlen;rw[GK] at hok;simp only[codeOk,Bool.and_eq_true] at hok;obtain⟨Uq,MF,Ur⟩:=hok;rw[pX,Bool.and_eq_true] at MF;have PT:uX fn.ntmps dst=true:=by
  have:=MF.2;simp only[cV,ox,Bool.and_true] at this;exact this
 generalize Py:(fun(e:Ending) (w':World)=>∃ρ',e=.returned (real ρ' (cR vs))∧Inv P H0 ρ' (grow D h.next h5.next) h5 w'∧Ext ρ D h w ρ' h5 w'∧(cR vs).aR (grow D h.next h5.next))=R;have DI:∀l a w,¬bodyPostM Fence.wide n P fn R (.goto l) a w:=fun l a w hh=>hh;have JA:∀(code:Code),aD P code=rest→∀(iY:cD) (w2:World) (a2:Act),Inv P H0 iY (grow D h.next h2.next) h2 w2→Ext ρ D h w iY h2 w2→bJ iY (grow D h.next h2.next) fn.ntmps (e2.put dst .undef) a2→
   bg (grow D h.next h2.next) first→bg (grow D h.next h2.next) aX→
   a2.defers=[{target:=.fn (.func g) (au iY aX).toArray,args:=(au iY first).toArray}]→code.wpIn Fence.wide n P (bodyPostM Fence.wide n P fn R) a2 w2:=by
  intro code eT iY w2 a2 i2 x2 KU SF tw JC;have hm2:jm a2.defers w2.heap.size iY (grow D h.next h2.next) h2 w2 a2.defers:=⟨[],rfl,List.nodup_nil,fun r hr=>by simp at hr⟩;refine Code.wpIn_mono ?_ (kD code eT fn.ntmps Ur none rfl iY _ w2 a2 w2.heap.size n a2.defers i2 KU hm2 (Nat.le_refl _));rintro ex a3 w3 ⟨Oy,hex,i3,x3,ei3,m3,_⟩;have K8:=dD D x2.next x3.next;have MW:(nM x).aR (grow (grow D h.next h2.next) h2.next h3.next):=by
   rcases hx with rfl|rfl|⟨v,rfl⟩
   ·simp[nM,AV.aR]
   ·simp[nM,AV.aR]
   ·exact hex.2
  have jH:LeavesInM Fence.wide n P fn a3.tmps R a3.defers (mD Oy x) w3:=by
   refine mh (u:=mD Oy x) (by rcases hx with rfl|rfl|⟨v,rfl⟩<;>simp[mD]) i3 x3 m3 ?_;intro w4 i4 x4;rw[JC];have hargs:au iY first=au Oy first:=(eG (fun b hb=>x4.bx b hb) first SF).symm
   have PI:au iY aX=au Oy aX:=(eG (fun b hb=>x4.bx b hb) aX tw).symm;rw[hargs,PI];refine⟨by rcases hx with rfl|rfl|⟨v,rfl⟩<;>simp[mD],.inr ⟨fun hh=>by simp[Fence.wide] at hh,.func g,(au Oy aX).toArray,g,(au Oy (first++aX)).toArray,rfl,?_,fun _ _=>trivial,?_⟩⟩
   ·simp only[invoke,tA]
    congr 2
    simp[iF]
   ·have hda:bg (grow (grow D h.next h2.next) h2.next h3.next) (first++aX):=by
     rw[aM];intro z hz;rcases List.mem_append.1 hz with hz|hz
     ·exact cJ (fun b hb=>.inl hb) _ ((aM _ _).1 SF z hz)
     ·exact cJ (fun b hb=>.inl hb) _ ((aM _ _).1 tw z hz)
    refine BA sys hg AS hbody AW Fw kq kL G6 hy i4 hda MW ?_;intro Vr v u' w5 iU i5 x5;show LeavesInM Fence.wide n P fn a3.tmps R [] (settle u') w5;rw[iU];have QA:=Ext.trans i2.lt x4 x5;have P0:=dD (grow D h.next h2.next) x3.next x5.next;rw[P0] at i5;have PZ:=dD D x2.next QA.next;rw[PZ] at i5;have ei5:bJ Vr (grow D h.next h5.next) fn.ntmps e3 a3:=by
     have:=ei3.mono (ρ':=Vr) (D':=grow (grow (grow D h.next h2.next) h2.next h3.next) h3.next h5.next) x5.bx (fun _=>.inl);rw[P0,PZ] at this;exact this
    have hrun:=kN (P:=P) (fn:=fn) ei5 i5 Cu hres;refine⟨_,hrun.1,?_⟩;rw[←Py];exact⟨Vr,rfl,i5,Ext.trans hi.lt x2 QA,hrun.2⟩
  rcases hx with rfl|rfl|⟨v,rfl⟩
  ·have hex:ex=.normal:=hex;subst hex;exact jH
  ·have hex:ex=.ret:=hex;subst hex;exact jH
  ·obtain⟨hex,_⟩:=hex;subst hex;exact jH
 have JI:∀(code:Code),aD P code=.ops (l1++[ox dst r])→∀(c3:Code),aD P c3=rest→∀(pn:cD) (w1:World) (a1:Act),Inv P H0 pn (grow D h.next h1.next) h1 w1→Ext ρ D h w pn h1 w1→bJ pn (grow D h.next h1.next) fn.ntmps e1 a1→
   a1.defers=[]→code.wpIn Fence.wide n P (Exit.then (c3.wpIn Fence.wide n P (bodyPostM Fence.wide n P fn R)) (bodyPostM Fence.wide n P fn R)) a1 w1:=by
  intro code;induction code with
  |scope c' ih=>
   intro eT c3 TT pn w1 a1 i1 x1 EG AO;exact lT (fun l a w hh=>hh) (ih (by simpa[aD] using eT) c3 TT pn w1 a1 i1 x1 EG AO)
  |region id os draw=>
   intro eT c3 TT pn w1 a1 i1 x1 EG AO;obtain⟨id',os',hcd,hos⟩:=dR (code:=.region id os draw) rfl eT;simp only[Code.region.injEq] at hcd;obtain⟨_,rfl,rfl⟩:=hcd;refine wpIn_region_list ?_;have hsplit:os.toList=os.toList.take l1.length++os.toList.drop l1.length:=(List.take_append_drop _ _).symm;have hpre:(os.toList.take l1.length).map (bH P os)=l1:=by rw[List.map_take,hos];simp
   have Hf:(os.toList.drop l1.length).map (bH P os)=[ox dst r]:=by rw[List.map_drop,hos];simp
   rw[hsplit];refine pZ (ro:=none) MA hpre MF.1 i1 EG ?_;intro iY w2 a2 i2 x2 KU JC;have K8:=dD D x1.next x2.next;rw[K8] at i2 KU;have x12:=Ext.trans hi.lt x1 x2;rcases y8:os.toList.drop l1.length with _|⟨o,U3⟩
   ·rw[y8] at Hf;simp at Hf
   ·rw[y8] at Hf;simp only[List.map_cons,List.cons.injEq,List.map_eq_nil_iff] at Hf;obtain⟨hc0,rfl⟩:=Hf;obtain⟨lG,hgd,cl,f0,Qo,Mo,hca,hrf⟩:=Ga hc0;have z5:=aF KU hrf;rw[hr] at z5;simp only[AV.aR] at z5;unfold wpListIn;rw[if_pos (by simp[Region.wanted,hgd])];refine⟨fun _ _=>trivial,?_⟩;have hrun:(Oper.semAt none a2.eval o).run P w2=.ok (.defer {target:=.fn (.func g) (au iY aX).toArray,args:=(au iY first).toArray}) w2:=by
     rw[Oper.semAt_none];unfold execOp;rw[Qo];have hargs:cl.args.map a2.eval=#[]:=by
      apply Array.ext';simp[hca]
     simp[resolve,Mo,z5.1,real,Deferred.ofValue,hargs,Sem.run_bind,Result.andThen]
    show o.uponIn Fence.wide n P a2 _ _ ((Oper.semAt none a2.eval o).run P w2);rw[hrun];rw[Oper.uponIn_defer];unfold wpListIn;show c3.wpIn Fence.wide n P (bodyPostM Fence.wide n P fn R) _ _;refine JA c3 TT iY w2 _ i2 x12 ?_ z5.2.2.1 z5.2.2.2 ?_
    ·have Ts:bJ iY (grow D h.next h2.next) fn.ntmps e2 {a2 with defers:={target:=.fn (.func g) (au iY aX).toArray,args:=(au iY first).toArray}::a2.defers}:=⟨KU.size,KU.get,KU.dom⟩;have:=Ts.put (d:=dst) (v:=.undef) PT (by simp[AV.undef,AV.aR,bg]);rw[fZ,←lG] at this;rw[←lG];exact this
    ·have GI:a2.defers=[]:=JC.trans AO;have:∀(a:Act) (d:Option Nat) (v:Value),(a.put d v).defers=a.defers:=by intro a d v;cases d<;>rfl
     rw[this];simp[GI]
  |_=>intro eT;obtain⟨_,_,hcd,_⟩:=dR rfl eT;simp at hcd
 have Qx:∀(code:Code),aD P code=.seq (.ops (l1++[ox dst r])) rest→∀(pn:cD) (w1:World) (a1:Act),Inv P H0 pn (grow D h.next h1.next) h1 w1→Ext ρ D h w pn h1 w1→bJ pn (grow D h.next h1.next) fn.ntmps e1 a1→
   a1.defers=[]→code.wpIn Fence.wide n P (bodyPostM Fence.wide n P fn R) a1 w1:=by
  intro code;induction code with
  |scope c' ih=>
   intro eT pn w1 a1 i1 x1 EG AO;exact lT DI (ih (by simpa[aD] using eT) pn w1 a1 i1 x1 EG AO)
  |seq c1 c2 _ _=>
   intro eT pn w1 a1 i1 x1 EG AO;simp only[aD,AC.seq.injEq] at eT;exact wpIn_seq (JI c1 eT.1 c2 eT.2 pn w1 a1 i1 x1 EG AO)
  |_=>intro eT;obtain⟨_,_,hcd,_⟩:=fW rfl eT;simp at hcd
 have MV:∀(code:Code),aD P code=.seq A (.seq (.ops (l1++[ox dst r])) rest)→
   code.wpIn Fence.wide n P (bodyPostM Fence.wide n P fn R) {tmps:=(au ρ args).toArray++Array.replicate (fn.ntmps-(au ρ args).toArray.size) Go.undef,defers:=[]} w:=by
  intro code;induction code with
  |scope c' ih=>
   intro eT;exact lT DI (ih (by simpa[aD] using eT))
  |seq c1 c2 _ _=>
   intro eT;simp only[aD,AC.seq.injEq] at eT;refine wpIn_seq ?_;have hm:jm [] w.heap.size ρ D h w ([]:List Deferred):=⟨[],rfl,List.nodup_nil,fun r hr=>by simp at hr⟩;refine Code.wpIn_mono ?_ (hA c1 eT.1 fn.ntmps Uq none rfl ρ D w _ w.heap.size n [] hi he hm (Nat.le_refl _));rintro ex a1 w1 ⟨pn,hex,i1,x1,EG,m1,AO⟩;have hex:ex=.normal:=hex;subst hex;exact Qx c2 eT.2 pn w1 a1 i1 x1 EG (AO DK)
  |_=>intro eT;obtain⟨_,_,hcd,_⟩:=fW rfl eT;simp at hcd
 exact MV c GK
end
end Ads
end Go.Proofs.Ytenafeojcgmnhaa
