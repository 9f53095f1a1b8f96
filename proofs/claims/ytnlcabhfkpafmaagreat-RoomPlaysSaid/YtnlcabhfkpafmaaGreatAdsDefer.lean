/-
  What big steps mean in the model: a function that defers a closure which recovers.
-/
import Derived.Test.YtnlcabhfkpafmaaGreatAdsCall
import Derived.RecoverIn
set_option linter.unusedSimpArgs false
set_option linter.unusedVariables false
namespace Go.Proofs.YtnlcabhfkpafmaaGreat
namespace Ads
section
variable {P:Program} {H0 W0:Nat} {ρ ρ':cF} {D D':Dom} {h h' h1:Heap} {w w':World} {N n:Nat} {env e e':Env} {a:Act} {ro:Option Nat} {rd:Bool}
theorem r8{ops:Array Oper}{o:Oper}{i:bE}{as:List bH}(hc:bG P ops o=i)(hop:i.op=.bad)(has:i.args=as)(hl:as.length=4):uT o=as∧i.dst=o.dst:=by
 unfold bG at hc;simp only at hc;split at hc
 ·rename_i g op as' hg gy;subst hc;simp only at hop has;subst hop has;have:=HG gy;omega
 ·subst hc;exact⟨has,rfl⟩
theorem HJ{ops:Array Oper}{o:Oper}{dst:Option Nat}{r:bH}(hc:bG P ops o=qG dst r):o.dst=dst∧o.guard=none∧∃c f,o.op=.defer c∧c.callee=.value f∧c.args.toList=[]∧dg f=some r:=by
 obtain⟨h1,h2⟩:=r8 (as:=[.c (.bool true),r,r,r]) hc rfl rfl rfl;refine⟨h2.symm,?_⟩;unfold uT at h1;split at h1
 ·rename_i c hg ho;split at h1
  ·rename_i f hcb hca;split at h1
   ·rename_i r' hr;simp only[List.cons.injEq,and_true,true_and] at h1;exact⟨hg,c,f,ho,hcb,hca,by rw[hr,h1.1]⟩
   ·simp at h1
  ·simp at h1
 ·split at h1
  ·simp at h1
  ·simp at h1
 ·simp at h1
theorem Od{ops:Array Oper}{o:Oper}{t:Nat}(hc:bG P ops o=z8 t):o.dst=some t∧o.guard=none∧∃c,o.op=.call c∧c.callee=.builtin .recover:=by
 obtain⟨h1,h2⟩:=r8 (as:=[.c (.bool false),.c (.bool false),.c (.bool false),.c (.bool false)]) hc rfl rfl rfl;refine⟨h2.symm,?_⟩;unfold uT at h1;split at h1
 ·split at h1
  ·split at h1
   ·simp at h1
   ·simp at h1
  ·simp at h1
 ·rename_i c hg ho;split at h1
  ·rename_i hcb;exact⟨hg,c,ho,hcb⟩
  ·simp at h1
 ·simp at h1
theorem uE{F:Fence}{Q:Exit→Act→List Frame→World→Prop}{cs:List Frame}{c:Code}(hq:∀l a cs w,¬Q (.goto l) a cs w)(h:c.wpSIn F n P Q a cs w):(Code.scope c).wpSIn F n P Q a cs w:=by
 intro b k Y7 hro hb hr;obtain⟨e,a₁,cs₁,w₁,hl,m6,iq⟩:=h b (.inScope c::k) Y7 hro hb hr;have s0:step P (lone (b.atR a (.code (.scope c)::k)) cs w)=.next (lone (b.atR a (.code c::.inScope c::k)) cs w):=
  step_lone_go (by simp[stepG,stepG.exec,Frame.atR])
 have s1:∀(a:Act) (cs:List Frame) (w:World),step P (lone (b.atR a (.inScope c::k)) cs w)=.next (lone (b.atR a k) cs w):=fun a cs w=>
  step_lone_go (by simp[stepG,stepG.exec,Frame.atR])
 have f0:(lone (b.atR a (.code (.scope c)::k)) cs w).fenced P F:=fenced_calm hb hr rfl;have hs:StepsIn (Machine.fenced P F) P (lone (b.atR a (.code (.scope c)::k)) cs w) (lone (b.atR a (.code c::.inScope c::k)) cs w):=.one f0 s0;cases e with
 |normal=>exact⟨.normal,a₁,cs₁,w₁,hl,m6,hs.trans (StepsIn.trans iq (.one (fenced_calm (fr:=b.atR a₁ (.inScope c::k)) hb (hl▸hr) rfl) (s1 a₁ cs₁ w₁)))⟩
 |exit id=>
  refine⟨.exit id,a₁,cs₁,w₁,hl,m6,fun k' hk=>hs.trans (iq.1 k' (by simp[exitTo,hk])),fun hr hk=>?_⟩;obtain⟨k₁,h1,h2⟩:=iq.2 hr (by simp[exitTo,hk]);exact⟨k₁,h1,hs.trans h2⟩
 |goto l=>exact absurd m6 (hq l a₁ cs₁ w₁)
 |ret=>exact⟨_,a₁,cs₁,w₁,hl,m6,fun hr=>let⟨todo,h1⟩:=iq.1 hr;⟨todo,hs.trans h1⟩,fun hr=>let⟨k₁,h1⟩:=iq.2 hr;⟨k₁,hs.trans h1⟩⟩
 |panic ch=>obtain⟨todo,h1⟩:=iq;exact⟨_,a₁,cs₁,w₁,hl,m6,todo,hs.trans h1⟩
 |outgrown=>exact⟨_,a₁,cs₁,w₁,hl,m6,iq.imp id (Outgrown.of_steps hs.steps)⟩
theorem yR{F:Fence}{Q:Exit→Act→List Frame→World→Prop}{cs:List Frame}(hF:∀f,F.fn f){ops:Array Oper}:∀{os:List Oper} {k:Nat},(∀j,j<os.length→ops[k+j]?=os[j]?)→∀{l:List bE} {e:Env} {tr:List aN} {e':Env},OT P H0 l e h tr e' h→
  os.map (bG P ops)=l→nU l=true→cV N l=true→∀{a:Act},bJ ρ D N e a→
  (∀a',bJ ρ D N e' a'→a'.defers=a.defers→Q .normal a' cs w)→wpOpsSIn F n P ops Q (List.range' k os.length) a cs w
 |[],k,Ci,l,e,tr,e',kB,hos,j7,hok,a,he,hk=>by
  simp only[List.map_nil] at hos;subst hos;cases tr with
  |cons m tr=>simp[OT] at kB
  |nil=>
   simp only[OT] at kB;obtain⟨rfl,_⟩:=kB;exact hk a he rfl
 |o::os,k,Ci,l,e,tr,e',kB,hos,j7,hok,a,he,hk=>by
  simp only[List.map_cons] at hos;subst hos;cases tr with
  |nil=>simp[OT] at kB
  |cons m tr=>
   have h0:ops[k]?=some o:=by have:=Ci 0 (by simp);simpa using this
   obtain⟨q,hq⟩:∃q,bG P ops o=q:=⟨_,rfl⟩;rw[hq] at kB j7 hok;obtain⟨qd,qg,SV,Pz⟩:=q;have lO:=(cI hq).1;simp only[cV,Bool.and_eq_true] at hok;simp only[nU,Bool.and_eq_true] at j7;simp only[OT] at kB;obtain⟨Bn,yB,kB⟩:=kB;simp only at lO;cases SV<;>cases qg<;>simp at j7
   rename_i p;rcases kB with⟨eM,hw,hv,kP⟩|⟨eM,hw,h1,hop,kP⟩
   ·simp[cE] at hw
   ·obtain⟨hp,FN⟩:=hop;rw[FN] at kP;have hc:=((cI hq).2 (.inl (by simp))).1;simp only at hc;have iM:=ec hq (.inl (by simp)) he;rw[yB] at hp;have hpi:=wF (w:=w) he hc hp;rw[List.length_cons,List.range'_succ];unfold wpOpsSIn;rw[h0];simp only;refine⟨fun f _=>hF f,?_⟩;rw[if_pos (by rw[iM,hw]),hpi.1];simp only;rw[←lO];refine yR hF (k:=k+1) (fun j hj=>?_) kP rfl j7 hok.2 (he.put hok.1 hpi.2) (fun a' g1 g2=>hk a' g1 (g2.trans (by cases qd<;>rfl)));have:=Ci (j+1) (by simp only[List.length_cons];omega);rw[show k+1+j=k+(j+1) by omega,this,List.getElem?_cons_succ]
def mJ(ρ:cF):AX→FrameMode
 |.panic v=>.panicking [{v:=real ρ v,recovered:=false}]
 |_=>.returning
theorem BW{ρ:cF}{x:AX}{c₀:Frame}{cs:List Frame}(hm:c₀.mode=mJ ρ x):
  ∃u',settle u'=.returning∧((recoverD (c₀::cs)=some (real ρ (oD x),{c₀ with mode:=u'}::cs))∨(recoverD (c₀::cs)=none∧real ρ (oD x)=.nilIface∧u'=c₀.mode)):=by
 cases x with
 |panic v=>exact⟨.panicking [{v:=real ρ v,recovered:=true}],rfl,.inl (by simp[recoverD,hm,mJ,oD])⟩
 |normal=>exact⟨.returning,rfl,.inr ⟨by simp[recoverD,hm,mJ],by simp[oD,real],by rw[hm];rfl⟩⟩
 |ret=>exact⟨.returning,rfl,.inr ⟨by simp[recoverD,hm,mJ],by simp[oD,real],by rw[hm];rfl⟩⟩
 |exit id=>exact⟨.returning,rfl,.inr ⟨by simp[recoverD,hm,mJ],by simp[oD,real],by rw[hm];rfl⟩⟩
theorem B6{fs:Nat→Option an}{ms:Nat→String→Option Nat}(sys:ou P fs ms){g:Nat}{args:List AV}{ag:an}{x y:AX}{t:Nat}{l2:List bE}{iC:AC}{PE:List aN}{e4 e5:Env}{h5:Heap}
  (hg:fs g=some ag)(hlen:args.length≤ag.ntmps)(hbody:ag.body=.seq (.ops (z8 t::l2)) iC)(hres:ag.results=[])(GO:bD iC=true)
  (kB:OT P H0 l2 ((Env.start ag.ntmps args).put (some t) (oD x)) h PE e4 h)(j7:nU l2=true)(kP:bN P H0 false iC e4 h y e5 h5)(hy:y=.normal∨y=.ret)
  {R:Ending→FrameMode→World→Prop}(hi:Inv P H0 ρ D h w)(hd:bn D args)(Rm:(oD x).aY D)
  (hk:∀ρ' v u' w',settle u'=.returning→Inv P H0 ρ' (grow D h.next h5.next) h5 w'→Ext ρ D h w ρ' h5 w'→R (.returned v) u' w'):
  CallsDIn Fence.wide n P g (au ρ args).toArray (mJ ρ x) w R:=by
 obtain⟨fn,hfn,CW⟩:=sys.CO g ag hg;obtain⟨c,rs,hb,hr,hname,hok,rfl⟩:=ie CW;simp only at hlen hbody hres;refine callsDIn_of_wpSIn hfn hb trivial ?_;intro c₀ cs hm;have he:=mY (ρ:=ρ) hd hlen;obtain⟨u',iU,IK⟩:=BW (cs:=cs) hm;have Ed:∀l a cs' w,¬bodyPostS P fn c₀ cs R (.goto l) a cs' w:=fun l a cs' w hh=>hh;have tG:∀(code:Code),aE P code=iC→codeOk fn.ntmps iC=true→∀(a:Act),bJ ρ D fn.ntmps e4 a→a.defers=[]→
   code.wpSIn Fence.wide n P (bodyPostS P fn c₀ cs R) a ({c₀ with mode:=u'}::cs) w:=by
  intro code gy zG a he4 had;refine wpSIn_of_wpIn rfl ?_;have hm0:jE [] w.heap.size ρ D h w a.defers:=⟨[],by rw[had];rfl,List.nodup_nil,fun r hr=>by simp at hr⟩;refine Code.wpIn_mono ?_ (kP code gy fn.ntmps zG none rfl ρ D w a w.heap.size n [] hi he4 hm0 (Nat.le_refl _));rintro ex a' w' ⟨ρ',hex,g1,g2,g3,g4,g5⟩;have TW:=(g5 GO).trans had;have hrun:=lf (P:=P) (fn:=fn) (vs:=[]) g3 g1 hr (by rw[hres];rfl);rcases hy with rfl|rfl
  ·have hex:ex=.normal:=hex;subst hex;exact⟨TW,u',rfl,_,hrun.1,hk ρ' _ u' w' iU g1 g2⟩
  ·have hex:ex=.ret:=hex;subst hex;exact⟨TW,u',rfl,_,hrun.1,hk ρ' _ u' w' iU g1 g2⟩
 have hcb:∀(code:Code),aE P code=.seq (.ops (z8 t::l2)) iC→codeOk fn.ntmps (.seq (.ops (z8 t::l2)) iC)=true→
   code.wpSIn Fence.wide n P (bodyPostS P fn c₀ cs R) {tmps:=(au ρ args).toArray++Array.replicate (fn.ntmps-(au ρ args).toArray.size) Go.undef,defers:=[]} (c₀::cs) w:=by
  intro code;induction code with
  |scope c' ih=>
   intro gy zG;exact uE Ed (ih (by simpa[aE] using gy) zG)
  |seq c1 c2 _ _=>
   intro gy zG;simp only[aE,AC.seq.injEq] at gy;simp only[codeOk,Bool.and_eq_true] at zG;refine wpSIn_seq ?_;have Bq:∀(code:Code),aE P code=.ops (z8 t::l2)→
     code.wpSIn Fence.wide n P (Exit.thenS (c2.wpSIn Fence.wide n P (bodyPostS P fn c₀ cs R)) (bodyPostS P fn c₀ cs R)) {tmps:=(au ρ args).toArray++Array.replicate (fn.ntmps-(au ρ args).toArray.size) Go.undef,defers:=[]} (c₀::cs) w:=by
    intro code;induction code with
    |scope c' ih=>
     intro gy;exact uE (fun l a cs' w hh=>hh) (ih (by simpa[aE] using gy))
    |region id os draw=>
     intro TO;obtain⟨id',os',hcd,hos⟩:=dW (code:=.region id os draw) rfl TO;simp only[Code.region.injEq] at hcd;obtain⟨_,rfl,rfl⟩:=hcd;refine wpSIn_region ?_;rcases C2:os.toList with _|⟨o,ZE⟩
     ·rw[C2] at hos;simp at hos
     ·rw[C2] at hos;simp only[List.map_cons,List.cons.injEq] at hos;obtain⟨lO,hgd,c0,Uf,QE⟩:=Od hos.1;have hsz:os.size=ZE.length+1:=by rw[←Array.length_toList,C2];rfl
      have h0:os[0]?=some o:=by rw[←Array.getElem?_toList,C2];rfl
      rw[hsz,List.range_eq_range',List.range'_succ];unfold wpOpsSIn;rw[h0];simp only;refine⟨fun _ _=>trivial,?_⟩;rw[if_pos (by simp[Region.wanted,hgd])];have hrun:(execOp (Act.eval {tmps:=(au ρ args).toArray++Array.replicate (fn.ntmps-(au ρ args).toArray.size) Go.undef,defers:=[]}) o).run P w=.ok .recover w:=by
       unfold execOp;rw[Uf];simp[resolve,QE,Sem.run_bind,Result.andThen,invoke,builtin]
      rw[hrun];simp only;have htb:vE fn.ntmps (some t)=true:=by
       have:=zG.1;simp only[cV,z8,Bool.and_eq_true] at this;exact this.1
      have Zf:cV fn.ntmps l2=true:=by
       have:=zG.1;simp only[cV,Bool.and_eq_true] at this;exact this.2
      have Bj:∀v,v=real ρ (oD x)→wpOpsSIn Fence.wide n P os (Exit.thenS (c2.wpSIn Fence.wide n P (bodyPostS P fn c₀ cs R)) (bodyPostS P fn c₀ cs R)) (List.range' (0+1) ZE.length) (Act.put {tmps:=(au ρ args).toArray++Array.replicate (fn.ntmps-(au ρ args).toArray.size) Go.undef,defers:=[]} o.dst v) ({c₀ with mode:=u'}::cs) w:=by
       rintro v rfl;rw[lO];refine yR (fun _=>trivial) (k:=0+1) (fun j hj=>?_) kB hos.2 j7 Zf (he.put htb Rm) (fun a' k1 k2=>?_)
       ·rw[←Array.getElem?_toList,C2,show 0+1+j=j+1 by omega,List.getElem?_cons_succ]
       ·exact tG c2 gy.2 zG.2 a' k1 k2
      rcases IK with IK|⟨IK,hni,hu'⟩
      ·rw[IK];exact Bj _ rfl
      ·rw[IK];simp only;have:=Bj .nilIface hni.symm;rw[hu'] at this;exact this
    |_=>intro TO;obtain⟨_,_,hcd,_⟩:=dW rfl TO;simp at hcd
   exact Bq c1 gy.1
  |_=>intro gy zG;obtain⟨_,_,hcd,_⟩:=fL rfl gy;simp at hcd
 rw[hbody] at hok;exact hcb c hbody hok
theorem Gu{fs:Nat→Option an}{ms:Nat→String→Option Nat}(sys:ou P fs ms){f:Nat}{args:List AV}{af:an}{A rest:AC}{l1:List bE}{dst:Option Nat}{r:bH}{e1 e2 e3:Env}{h2 h3:Heap}{tr:List aN}{g:Nat}{first aM:List AV}{ag:an}{x y:AX}{t:Nat}{l2:List bE}{iC:AC}{PE:List aN}{e4 e5:Env}{h5:Heap}{vs:List AV}
  (hf:fs f=some af)(hlen:args.length≤af.ntmps)(Im:af.body=.seq A (.seq (.ops (l1++[qG dst r])) rest))(hA:bN P H0 false A (Env.start af.ntmps args) h .normal e1 h1)(FP:bD A=true)(Eg:OT P H0 l1 e1 h1 tr e2 h2)(hr:e2.ev r=.func (.func g) first aM)
  (kP:bN P H0 false rest (e2.put dst .undef) h2 x e3 h3)(hx:x=.normal∨x=.ret∨∃v,x=.panic v)
  (hg:fs g=some ag)(Bi:(first++aM).length≤ag.ntmps)(hbody:ag.body=.seq (.ops (z8 t::l2)) iC)(Bl:ag.results=[])(GO:bD iC=true)
  (kB:OT P H0 l2 ((Env.start ag.ntmps (first++aM)).put (some t) (oD x)) h3 PE e4 h3)(j7:nU l2=true)(IL:bN P H0 false iC e4 h3 y e5 h5)(hy:y=.normal∨y=.ret)
  (tH:∀(args:Array Value) (w:World),(callFunc g args).run P w=.ok (.enter g args) w)
  (hres:jy e3 h5 af.results=some vs):ga P H0 f args h (dR vs) h5:=by
 obtain⟨fn,hfn,CW⟩:=sys.CO f af hf;obtain⟨c,rs,hb,FV,hname,hok,rfl⟩:=ie CW;simp only at hlen Im hres;intro ρ D w n hi hd;refine callsIn_of_wp_marks hfn hb trivial ?_;have he:=mY (ρ:=ρ) hd hlen;rw[Im] at hok;simp only[codeOk,Bool.and_eq_true] at hok;obtain⟨Zg,Q0,Zh⟩:=hok;rw[qe,Bool.and_eq_true] at Q0;have TZ:vE fn.ntmps dst=true:=by
  have:=Q0.2;simp only[cV,qG,Bool.and_true] at this;exact this
 generalize TH:(fun(e:Ending) (w':World)=>∃ρ',e=.returned (real ρ' (dR vs))∧Inv P H0 ρ' (grow D h.next h5.next) h5 w'∧Ext ρ D h w ρ' h5 w'∧(dR vs).aY (grow D h.next h5.next))=R;have Ed:∀l a w,¬bodyPostM Fence.wide n P fn R (.goto l) a w:=fun l a w hh=>hh;have Nc:∀(code:Code),aE P code=rest→∀(iW:cF) (w2:World) (a2:Act),Inv P H0 iW (grow D h.next h2.next) h2 w2→Ext ρ D h w iW h2 w2→bJ iW (grow D h.next h2.next) fn.ntmps (e2.put dst .undef) a2→
   bn (grow D h.next h2.next) first→bn (grow D h.next h2.next) aM→
   a2.defers=[{target:=.fn (.func g) (au iW aM).toArray,args:=(au iW first).toArray}]→code.wpIn Fence.wide n P (bodyPostM Fence.wide n P fn R) a2 w2:=by
  intro code gy iW w2 a2 i2 x2 Pd Wr Bd TT;have hm2:jE a2.defers w2.heap.size iW (grow D h.next h2.next) h2 w2 a2.defers:=⟨[],rfl,List.nodup_nil,fun r hr=>by simp at hr⟩;refine Code.wpIn_mono ?_ (kP code gy fn.ntmps Zh none rfl iW _ w2 a2 w2.heap.size n a2.defers i2 Pd hm2 (Nat.le_refl _));rintro ex a3 w3 ⟨S5,hex,i3,x3,ei3,m3,_⟩;have Iq:=dG D x2.next x3.next;have Rm:(oD x).aY (grow (grow D h.next h2.next) h2.next h3.next):=by
   rcases hx with rfl|rfl|⟨v,rfl⟩
   ·simp[oD,AV.aY]
   ·simp[oD,AV.aY]
   ·exact hex.2
  have jr:LeavesInM Fence.wide n P fn a3.tmps R a3.defers (mJ S5 x) w3:=by
   refine mz (u:=mJ S5 x) (by rcases hx with rfl|rfl|⟨v,rfl⟩<;>simp[mJ]) i3 x3 m3 ?_;intro w4 i4 x4;rw[TT];have hargs:au iW first=au S5 first:=(eE (fun b hb=>x4.bB b hb) first Wr).symm
   have TM:au iW aM=au S5 aM:=(eE (fun b hb=>x4.bB b hb) aM Bd).symm;rw[hargs,TM];refine⟨by rcases hx with rfl|rfl|⟨v,rfl⟩<;>simp[mJ],.inr ⟨fun hh=>by simp[Fence.wide] at hh,.func g,(au S5 aM).toArray,g,(au S5 (first++aM)).toArray,rfl,?_,fun _ _=>trivial,?_⟩⟩
   ·simp only[invoke,tH]
    congr 2
    simp[iw]
   ·have hda:bn (grow (grow D h.next h2.next) h2.next h3.next) (first++aM):=by
     rw[aS];intro z hz;rcases List.mem_append.1 hz with hz|hz
     ·exact cK (fun b hb=>.inl hb) _ ((aS _ _).1 Wr z hz)
     ·exact cK (fun b hb=>.inl hb) _ ((aS _ _).1 Bd z hz)
    refine B6 sys hg Bi hbody Bl GO kB j7 IL hy i4 hda Rm ?_;intro ZR v u' w5 iU i5 x5;show LeavesInM Fence.wide n P fn a3.tmps R [] (settle u') w5;rw[iU];have Ur:=Ext.trans i2.lt x4 x5;have T4:=dG (grow D h.next h2.next) x3.next x5.next;rw[T4] at i5;have T3:=dG D x2.next Ur.next;rw[T3] at i5;have ei5:bJ ZR (grow D h.next h5.next) fn.ntmps e3 a3:=by
     have:=ei3.mono (ρ':=ZR) (D':=grow (grow (grow D h.next h2.next) h2.next h3.next) h3.next h5.next) x5.bB (fun _=>.inl);rw[T4,T3] at this;exact this
    have hrun:=lf (P:=P) (fn:=fn) ei5 i5 FV hres;refine⟨_,hrun.1,?_⟩;rw[←TH];exact⟨ZR,rfl,i5,Ext.trans hi.lt x2 Ur,hrun.2⟩
  rcases hx with rfl|rfl|⟨v,rfl⟩
  ·have hex:ex=.normal:=hex;subst hex;exact jr
  ·have hex:ex=.ret:=hex;subst hex;exact jr
  ·obtain⟨hex,_⟩:=hex;subst hex;exact jr
 have Nj:∀(code:Code),aE P code=.ops (l1++[qG dst r])→∀(c3:Code),aE P c3=rest→∀(pO:cF) (w1:World) (a1:Act),Inv P H0 pO (grow D h.next h1.next) h1 w1→Ext ρ D h w pO h1 w1→bJ pO (grow D h.next h1.next) fn.ntmps e1 a1→
   a1.defers=[]→code.wpIn Fence.wide n P (Exit.then (c3.wpIn Fence.wide n P (bodyPostM Fence.wide n P fn R)) (bodyPostM Fence.wide n P fn R)) a1 w1:=by
  intro code;induction code with
  |scope c' ih=>
   intro gy c3 YT pO w1 a1 i1 x1 FE Ck;exact lW (fun l a w hh=>hh) (ih (by simpa[aE] using gy) c3 YT pO w1 a1 i1 x1 FE Ck)
  |region id os draw=>
   intro gy c3 YT pO w1 a1 i1 x1 FE Ck;obtain⟨id',os',hcd,hos⟩:=dW (code:=.region id os draw) rfl gy;simp only[Code.region.injEq] at hcd;obtain⟨_,rfl,rfl⟩:=hcd;refine wpIn_region_list ?_;have hsplit:os.toList=os.toList.take l1.length++os.toList.drop l1.length:=(List.take_append_drop _ _).symm;have hpre:(os.toList.take l1.length).map (bG P os)=l1:=by rw[List.map_take,hos];simp
   have IS:(os.toList.drop l1.length).map (bG P os)=[qG dst r]:=by rw[List.map_drop,hos];simp
   rw[hsplit];refine qh (ro:=none) Eg hpre Q0.1 i1 FE ?_;intro iW w2 a2 i2 x2 Pd TT;have Iq:=dG D x1.next x2.next;rw[Iq] at i2 Pd;have x12:=Ext.trans hi.lt x1 x2;rcases C2:os.toList.drop l1.length with _|⟨o,ZE⟩
   ·rw[C2] at IS;simp at IS
   ·rw[C2] at IS;simp only[List.map_cons,List.cons.injEq,List.map_eq_nil_iff] at IS;obtain⟨hc0,rfl⟩:=IS;obtain⟨lO,hgd,cl,f0,Uf,QE,hca,hrf⟩:=HJ hc0;have Bf:=aG Pd hrf;rw[hr] at Bf;simp only[AV.aY] at Bf;unfold wpListIn;rw[if_pos (by simp[Region.wanted,hgd])];refine⟨fun _ _=>trivial,?_⟩;have hrun:(Oper.semAt none a2.eval o).run P w2=.ok (.defer {target:=.fn (.func g) (au iW aM).toArray,args:=(au iW first).toArray}) w2:=by
     rw[Oper.semAt_none];unfold execOp;rw[Uf];have hargs:cl.args.map a2.eval=#[]:=by
      apply Array.ext';simp[hca]
     simp[resolve,QE,Bf.1,real,Deferred.ofValue,hargs,Sem.run_bind,Result.andThen]
    show o.uponIn Fence.wide n P a2 _ _ ((Oper.semAt none a2.eval o).run P w2);rw[hrun];rw[Oper.uponIn_defer];unfold wpListIn;show c3.wpIn Fence.wide n P (bodyPostM Fence.wide n P fn R) _ _;refine Nc c3 YT iW w2 _ i2 x12 ?_ Bf.2.2.1 Bf.2.2.2 ?_
    ·have Ys:bJ iW (grow D h.next h2.next) fn.ntmps e2 {a2 with defers:={target:=.fn (.func g) (au iW aM).toArray,args:=(au iW first).toArray}::a2.defers}:=⟨Pd.size,Pd.get,Pd.dom⟩;have:=Ys.put (d:=dst) (v:=.undef) TZ (by simp[AV.undef,AV.aY,bn]);rw[fO,←lO] at this;rw[←lO];exact this
    ·have QI:a2.defers=[]:=TT.trans Ck;have:∀(a:Act) (d:Option Nat) (v:Value),(a.put d v).defers=a.defers:=by intro a d v;cases d<;>rfl
     rw[this];simp[QI]
  |_=>intro gy;obtain⟨_,_,hcd,_⟩:=dW rfl gy;simp at hcd
 have Um:∀(code:Code),aE P code=.seq (.ops (l1++[qG dst r])) rest→∀(pO:cF) (w1:World) (a1:Act),Inv P H0 pO (grow D h.next h1.next) h1 w1→Ext ρ D h w pO h1 w1→bJ pO (grow D h.next h1.next) fn.ntmps e1 a1→
   a1.defers=[]→code.wpIn Fence.wide n P (bodyPostM Fence.wide n P fn R) a1 w1:=by
  intro code;induction code with
  |scope c' ih=>
   intro gy pO w1 a1 i1 x1 FE Ck;exact lW Ed (ih (by simpa[aE] using gy) pO w1 a1 i1 x1 FE Ck)
  |seq c1 c2 _ _=>
   intro gy pO w1 a1 i1 x1 FE Ck;simp only[aE,AC.seq.injEq] at gy;exact wpIn_seq (Nj c1 gy.1 c2 gy.2 pO w1 a1 i1 x1 FE Ck)
  |_=>intro gy;obtain⟨_,_,hcd,_⟩:=fL rfl gy;simp at hcd
 have Rl:∀(code:Code),aE P code=.seq A (.seq (.ops (l1++[qG dst r])) rest)→
   code.wpIn Fence.wide n P (bodyPostM Fence.wide n P fn R) {tmps:=(au ρ args).toArray++Array.replicate (fn.ntmps-(au ρ args).toArray.size) Go.undef,defers:=[]} w:=by
  intro code;induction code with
  |scope c' ih=>
   intro gy;exact lW Ed (ih (by simpa[aE] using gy))
  |seq c1 c2 _ _=>
   intro gy;simp only[aE,AC.seq.injEq] at gy;refine wpIn_seq ?_;have hm:jE [] w.heap.size ρ D h w ([]:List Deferred):=⟨[],rfl,List.nodup_nil,fun r hr=>by simp at hr⟩;refine Code.wpIn_mono ?_ (hA c1 gy.1 fn.ntmps Zg none rfl ρ D w _ w.heap.size n [] hi he hm (Nat.le_refl _));rintro ex a1 w1 ⟨pO,hex,i1,x1,FE,m1,Ck⟩;have hex:ex=.normal:=hex;subst hex;exact Um c2 gy.2 pO w1 a1 i1 x1 FE (Ck FP)
  |_=>intro gy;obtain⟨_,_,hcd,_⟩:=fL rfl gy;simp at hcd
 exact Rl c Im
end
end Ads
end Go.Proofs.YtnlcabhfkpafmaaGreat
