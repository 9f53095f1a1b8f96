/-
  What big steps mean in the model: a function that defers a closure which recovers.
-/
import Derived.Test.YtecdcefacdodgaaAdsCall
import Derived.RecoverIn
set_option linter.unusedSimpArgs false
set_option linter.unusedVariables false
namespace Go.Proofs.Ytecdcefacdodgaa
namespace Ads
section
variable {P:Program} {H0 W0:Nat} {ρ ρ':cn} {D D':Dom} {h h' h1:Heap} {w w':World} {N n:Nat} {env e e':Env} {a:Act} {ro:Option Nat} {rd:Bool}
theorem rR{ops:Array Oper}{o:Oper}{i:bh}{as:List bA}(hc:bw P ops o=i)(hop:i.op=.bad)(has:i.args=as)(hl:as.length=4):uT o=as∧i.dst=o.dst:=by
 unfold bw at hc;simp only at hc;split at hc
 ·rename_i g op as' hg fm;subst hc;simp only at hop has;subst hop has;have:=HC fm;omega
 ·subst hc;exact⟨has,rfl⟩
theorem HD{ops:Array Oper}{o:Oper}{dst:Option Nat}{r:bA}(hc:bw P ops o=oI dst r):o.dst=dst∧o.guard=none∧∃c f,o.op=.defer c∧c.callee=.value f∧c.args.toList=[]∧cW f=some r:=by
 obtain⟨h1,h2⟩:=rR (as:=[.c (.bool true),r,r,r]) hc rfl rfl rfl;refine⟨h2.symm,?_⟩;unfold uT at h1;split at h1
 ·rename_i c hg ho;split at h1
  ·rename_i f hcb hca;split at h1
   ·rename_i r' hr;simp only[List.cons.injEq,and_true,true_and] at h1;exact⟨hg,c,f,ho,hcb,hca,by rw[hr,h1.1]⟩
   ·simp at h1
  ·simp at h1
 ·split at h1
  ·simp at h1
  ·simp at h1
 ·simp at h1
theorem MJ{ops:Array Oper}{o:Oper}{t:Nat}(hc:bw P ops o=xW t):o.dst=some t∧o.guard=none∧∃c,o.op=.call c∧c.callee=.builtin .recover:=by
 obtain⟨h1,h2⟩:=rR (as:=[.c (.bool false),.c (.bool false),.c (.bool false),.c (.bool false)]) hc rfl rfl rfl;refine⟨h2.symm,?_⟩;unfold uT at h1;split at h1
 ·split at h1
  ·split at h1
   ·simp at h1
   ·simp at h1
  ·simp at h1
 ·rename_i c hg ho;split at h1
  ·rename_i hcb;exact⟨hg,c,ho,hcb⟩
  ·simp at h1
 ·simp at h1
theorem uH{F:Fence}{Q:Exit→Act→List Frame→World→Prop}{cs:List Frame}{c:Code}(hq:∀l a cs w,¬Q (.goto l) a cs w)(h:c.wpSIn F n P Q a cs w):(Code.scope c).wpSIn F n P Q a cs w:=by
 intro b k V2 hro hb hr;obtain⟨e,a₁,cs₁,w₁,hl,mZ,fN⟩:=h b (.inScope c::k) V2 hro hb hr;have s0:step P (lone (b.atR a (.code (.scope c)::k)) cs w)=.next (lone (b.atR a (.code c::.inScope c::k)) cs w):=
  step_lone_go (by simp[stepG,stepG.exec,Frame.atR])
 have s1:∀(a:Act) (cs:List Frame) (w:World),step P (lone (b.atR a (.inScope c::k)) cs w)=.next (lone (b.atR a k) cs w):=fun a cs w=>
  step_lone_go (by simp[stepG,stepG.exec,Frame.atR])
 have f0:(lone (b.atR a (.code (.scope c)::k)) cs w).fenced P F:=fenced_calm hb hr rfl;have hs:StepsIn (Machine.fenced P F) P (lone (b.atR a (.code (.scope c)::k)) cs w) (lone (b.atR a (.code c::.inScope c::k)) cs w):=.one f0 s0;cases e with
 |normal=>exact⟨.normal,a₁,cs₁,w₁,hl,mZ,hs.trans (StepsIn.trans fN (.one (fenced_calm (fr:=b.atR a₁ (.inScope c::k)) hb (hl▸hr) rfl) (s1 a₁ cs₁ w₁)))⟩
 |exit id=>
  refine⟨.exit id,a₁,cs₁,w₁,hl,mZ,fun k' hk=>hs.trans (fN.1 k' (by simp[exitTo,hk])),fun hr hk=>?_⟩;obtain⟨k₁,h1,h2⟩:=fN.2 hr (by simp[exitTo,hk]);exact⟨k₁,h1,hs.trans h2⟩
 |goto l=>exact absurd mZ (hq l a₁ cs₁ w₁)
 |ret=>exact⟨_,a₁,cs₁,w₁,hl,mZ,fun hr=>let⟨todo,h1⟩:=fN.1 hr;⟨todo,hs.trans h1⟩,fun hr=>let⟨k₁,h1⟩:=fN.2 hr;⟨k₁,hs.trans h1⟩⟩
 |panic ch=>obtain⟨todo,h1⟩:=fN;exact⟨_,a₁,cs₁,w₁,hl,mZ,todo,hs.trans h1⟩
 |outgrown=>exact⟨_,a₁,cs₁,w₁,hl,mZ,fN.imp id (Outgrown.of_steps hs.steps)⟩
theorem y3{F:Fence}{Q:Exit→Act→List Frame→World→Prop}{cs:List Frame}(hF:∀f,F.fn f){ops:Array Oper}:∀{os:List Oper} {k:Nat},(∀j,j<os.length→ops[k+j]?=os[j]?)→∀{l:List bh} {e:Env} {tr:List aG} {e':Env},OT P H0 l e h tr e' h→
  os.map (bw P ops)=l→lN l=true→cP N l=true→∀{a:Act},bz ρ D N e a→
  (∀a',bz ρ D N e' a'→a'.defers=a.defers→Q .normal a' cs w)→wpOpsSIn F n P ops Q (List.range' k os.length) a cs w
 |[],k,vL,l,e,tr,e',j7,hos,mI,hok,a,he,hk=>by
  simp only[List.map_nil] at hos;subst hos;cases tr with
  |cons m tr=>simp[OT] at j7
  |nil=>
   simp only[OT] at j7;obtain⟨rfl,_⟩:=j7;exact hk a he rfl
 |o::os,k,vL,l,e,tr,e',j7,hos,mI,hok,a,he,hk=>by
  simp only[List.map_cons] at hos;subst hos;cases tr with
  |nil=>simp[OT] at j7
  |cons m tr=>
   have h0:ops[k]?=some o:=by have:=vL 0 (by simp);simpa using this
   obtain⟨q,hq⟩:∃q,bw P ops o=q:=⟨_,rfl⟩;rw[hq] at j7 mI hok;obtain⟨qd,qg,WL,NL⟩:=q;have lC:=(cw hq).1;simp only[cP,Bool.and_eq_true] at hok;simp only[lN,Bool.and_eq_true] at mI;simp only[OT] at j7;obtain⟨BH,yJ,j7⟩:=j7;simp only at lC;cases WL<;>cases qg<;>simp at mI
   rename_i p;rcases j7 with⟨dI,hw,hv,kq⟩|⟨dI,hw,h1,hop,kq⟩
   ·simp[bF] at hw
   ·obtain⟨hp,RO⟩:=hop;rw[RO] at kq;have hc:=((cw hq).2 (.inl (by simp))).1;simp only at hc;have gT:=dL hq (.inl (by simp)) he;rw[yJ] at hp;have Ky:=wq (w:=w) he hc hp;rw[List.length_cons,List.range'_succ];unfold wpOpsSIn;rw[h0];simp only;refine⟨fun f _=>hF f,?_⟩;rw[if_pos (by rw[gT,hw]),Ky.1];simp only;rw[←lC];refine y3 hF (k:=k+1) (fun j hj=>?_) kq rfl mI hok.2 (he.put hok.1 Ky.2) (fun a' g1 g2=>hk a' g1 (g2.trans (by cases qd<;>rfl)));have:=vL (j+1) (by simp only[List.length_cons];omega);rw[show k+1+j=k+(j+1) by omega,this,List.getElem?_cons_succ]
def mL(ρ:cn):AX→FrameMode
 |.panic v=>.panicking [{v:=real ρ v,recovered:=false}]
 |_=>.returning
theorem Cc{ρ:cn}{x:AX}{c₀:Frame}{cs:List Frame}(hm:c₀.mode=mL ρ x):
  ∃u',settle u'=.returning∧((recoverD (c₀::cs)=some (real ρ (nR x),{c₀ with mode:=u'}::cs))∨(recoverD (c₀::cs)=none∧real ρ (nR x)=.nilIface∧u'=c₀.mode)):=by
 cases x with
 |panic v=>exact⟨.panicking [{v:=real ρ v,recovered:=true}],rfl,.inl (by simp[recoverD,hm,mL,nR])⟩
 |normal=>exact⟨.returning,rfl,.inr ⟨by simp[recoverD,hm,mL],by simp[nR,real],by rw[hm];rfl⟩⟩
 |ret=>exact⟨.returning,rfl,.inr ⟨by simp[recoverD,hm,mL],by simp[nR,real],by rw[hm];rfl⟩⟩
 |exit id=>exact⟨.returning,rfl,.inr ⟨by simp[recoverD,hm,mL],by simp[nR,real],by rw[hm];rfl⟩⟩
theorem Ch{fs:Nat→Option az}{ms:Nat→String→Option Nat}(sys:kZ P fs ms){g:Nat}{args:List AV}{ag:az}{x y:AX}{t:Nat}{l2:List bh}{dS:AC}{KG:List aG}{e4 e5:Env}{h5:Heap}
  (hg:fs g=some ag)(hlen:args.length≤ag.ntmps)(hbody:ag.body=.seq (.ops (xW t::l2)) dS)(hres:ag.results=[])(GY:aR dS=true)
  (j7:OT P H0 l2 ((Env.start ag.ntmps args).put (some t) (nR x)) h KG e4 h)(mI:lN l2=true)(kq:bu P H0 false dS e4 h y e5 h5)(hy:y=.normal∨y=.ret)
  {R:Ending→FrameMode→World→Prop}(hi:Inv P H0 ρ D h w)(hd:aW D args)(Pf:(nR x).aP D)
  (hk:∀ρ' v u' w',settle u'=.returning→Inv P H0 ρ' (grow D h.next h5.next) h5 w'→Ext ρ D h w ρ' h5 w'→R (.returned v) u' w'):
  CallsDIn Fence.wide n P g (aa ρ args).toArray (mL ρ x) w R:=by
 obtain⟨fn,hfn,Ds⟩:=sys.zW g ag hg;obtain⟨c,rs,hb,hr,hname,hok,rfl⟩:=gA Ds;simp only at hlen hbody hres;refine callsDIn_of_wpSIn hfn hb trivial ?_;intro c₀ cs hm;have he:=mU (ρ:=ρ) hd hlen;obtain⟨u',ie,IQ⟩:=Cc (cs:=cs) hm;have EW:∀l a cs' w,¬bodyPostS P fn c₀ cs R (.goto l) a cs' w:=fun l a cs' w hh=>hh;have tF:∀(code:Code),ay P code=dS→codeOk fn.ntmps dS=true→∀(a:Act),bz ρ D fn.ntmps e4 a→a.defers=[]→
   code.wpSIn Fence.wide n P (bodyPostS P fn c₀ cs R) a ({c₀ with mode:=u'}::cs) w:=by
  intro code fm zZ a he4 had;refine wpSIn_of_wpIn rfl ?_;have hm0:iG [] w.heap.size ρ D h w a.defers:=⟨[],by rw[had];rfl,List.nodup_nil,fun r hr=>by simp at hr⟩;refine Code.wpIn_mono ?_ (kq code fm fn.ntmps zZ none rfl ρ D w a w.heap.size n [] hi he4 hm0 (Nat.le_refl _));rintro ex a' w' ⟨ρ',hex,g1,g2,g3,g4,g5⟩;have RC:=(g5 GY).trans had;have hrun:=kK (P:=P) (fn:=fn) (vs:=[]) g3 g1 hr (by rw[hres];rfl);rcases hy with rfl|rfl
  ·have hex:ex=.normal:=hex;subst hex;exact⟨RC,u',rfl,_,hrun.1,hk ρ' _ u' w' ie g1 g2⟩
  ·have hex:ex=.ret:=hex;subst hex;exact⟨RC,u',rfl,_,hrun.1,hk ρ' _ u' w' ie g1 g2⟩
 have hcb:∀(code:Code),ay P code=.seq (.ops (xW t::l2)) dS→codeOk fn.ntmps (.seq (.ops (xW t::l2)) dS)=true→
   code.wpSIn Fence.wide n P (bodyPostS P fn c₀ cs R) {tmps:=(aa ρ args).toArray++Array.replicate (fn.ntmps-(aa ρ args).toArray.size) Go.undef,defers:=[]} (c₀::cs) w:=by
  intro code;induction code with
  |scope c' ih=>
   intro fm zZ;exact uH EW (ih (by simpa[ay] using fm) zZ)
  |seq c1 c2 _ _=>
   intro fm zZ;simp only[ay,AC.seq.injEq] at fm;simp only[codeOk,Bool.and_eq_true] at zZ;refine wpSIn_seq ?_;have BJ:∀(code:Code),ay P code=.ops (xW t::l2)→
     code.wpSIn Fence.wide n P (Exit.thenS (c2.wpSIn Fence.wide n P (bodyPostS P fn c₀ cs R)) (bodyPostS P fn c₀ cs R)) {tmps:=(aa ρ args).toArray++Array.replicate (fn.ntmps-(aa ρ args).toArray.size) Go.undef,defers:=[]} (c₀::cs) w:=by
    intro code;induction code with
    |scope c' ih=>
     intro fm;exact uH (fun l a cs' w hh=>hh) (ih (by simpa[ay] using fm))
    |region id os draw=>
     intro Rw;obtain⟨id',os',hcd,hos⟩:=dD (code:=.region id os draw) rfl Rw;simp only[Code.region.injEq] at hcd;obtain⟨_,rfl,rfl⟩:=hcd;refine wpSIn_region ?_;rcases II:os.toList with _|⟨o,WD⟩
     ·rw[II] at hos;simp at hos
     ·rw[II] at hos;simp only[List.map_cons,List.cons.injEq] at hos;obtain⟨lC,hgd,c0,R5,OF⟩:=MJ hos.1;have hsz:os.size=WD.length+1:=by rw[←Array.length_toList,II];rfl
      have h0:os[0]?=some o:=by rw[←Array.getElem?_toList,II];rfl
      rw[hsz,List.range_eq_range',List.range'_succ];unfold wpOpsSIn;rw[h0];simp only;refine⟨fun _ _=>trivial,?_⟩;rw[if_pos (by simp[Region.wanted,hgd])];have hrun:(execOp (Act.eval {tmps:=(aa ρ args).toArray++Array.replicate (fn.ntmps-(aa ρ args).toArray.size) Go.undef,defers:=[]}) o).run P w=.ok .recover w:=by
       unfold execOp;rw[R5];simp[resolve,OF,Sem.run_bind,Result.andThen,invoke,builtin]
      rw[hrun];simp only;have htb:vA fn.ntmps (some t)=true:=by
       have:=zZ.1;simp only[cP,xW,Bool.and_eq_true] at this;exact this.1
      have Wc:cP fn.ntmps l2=true:=by
       have:=zZ.1;simp only[cP,Bool.and_eq_true] at this;exact this.2
      have z5:∀v,v=real ρ (nR x)→wpOpsSIn Fence.wide n P os (Exit.thenS (c2.wpSIn Fence.wide n P (bodyPostS P fn c₀ cs R)) (bodyPostS P fn c₀ cs R)) (List.range' (0+1) WD.length) (Act.put {tmps:=(aa ρ args).toArray++Array.replicate (fn.ntmps-(aa ρ args).toArray.size) Go.undef,defers:=[]} o.dst v) ({c₀ with mode:=u'}::cs) w:=by
       rintro v rfl;rw[lC];refine y3 (fun _=>trivial) (k:=0+1) (fun j hj=>?_) j7 hos.2 mI Wc (he.put htb Pf) (fun a' k1 k2=>?_)
       ·rw[←Array.getElem?_toList,II,show 0+1+j=j+1 by omega,List.getElem?_cons_succ]
       ·exact tF c2 fm.2 zZ.2 a' k1 k2
      rcases IQ with IQ|⟨IQ,hni,hu'⟩
      ·rw[IQ];exact z5 _ rfl
      ·rw[IQ];simp only;have:=z5 .nilIface hni.symm;rw[hu'] at this;exact this
    |_=>intro Rw;obtain⟨_,_,hcd,_⟩:=dD rfl Rw;simp at hcd
   exact BJ c1 fm.1
  |_=>intro fm zZ;obtain⟨_,_,hcd,_⟩:=eT rfl fm;simp at hcd
 rw[hbody] at hok;exact hcb c hbody hok
theorem Gv{fs:Nat→Option az}{ms:Nat→String→Option Nat}(sys:kZ P fs ms){f:Nat}{args:List AV}{af:az}{A rest:AC}{l1:List bh}{dst:Option Nat}{r:bA}{e1 e2 e3:Env}{h2 h3:Heap}{tr:List aG}{g:Nat}{first aF:List AV}{ag:az}{x y:AX}{t:Nat}{l2:List bh}{dS:AC}{KG:List aG}{e4 e5:Env}{h5:Heap}{vs:List AV}
  (hf:fs f=some af)(hlen:args.length≤af.ntmps)(mh:af.body=.seq A (.seq (.ops (l1++[oI dst r])) rest))(hA:bu P H0 false A (Env.start af.ntmps args) h .normal e1 h1)(EY:aR A=true)(Qs:OT P H0 l1 e1 h1 tr e2 h2)(hr:e2.ev r=.func (.func g) first aF)
  (kq:bu P H0 false rest (e2.put dst .undef) h2 x e3 h3)(hx:x=.normal∨x=.ret∨∃v,x=.panic v)
  (hg:fs g=some ag)(BF:(first++aF).length≤ag.ntmps)(hbody:ag.body=.seq (.ops (xW t::l2)) dS)(BG:ag.results=[])(GY:aR dS=true)
  (j7:OT P H0 l2 ((Env.start ag.ntmps (first++aF)).put (some t) (nR x)) h3 KG e4 h3)(mI:lN l2=true)(IS:bu P H0 false dS e4 h3 y e5 h5)(hy:y=.normal∨y=.ret)
  (tH:∀(args:Array Value) (w:World),(callFunc g args).run P w=.ok (.enter g args) w)
  (hres:fE e3 h5 af.results=some vs):fF P H0 f args h (cI vs) h5:=by
 obtain⟨fn,hfn,Ds⟩:=sys.zW f af hf;obtain⟨c,rs,hb,DD,hname,hok,rfl⟩:=gA Ds;simp only at hlen mh hres;intro ρ D w n hi hd;refine callsIn_of_wp_marks hfn hb trivial ?_;have he:=mU (ρ:=ρ) hd hlen;rw[mh] at hok;simp only[codeOk,Bool.and_eq_true] at hok;obtain⟨Wd,OW,xM⟩:=hok;rw[qe,Bool.and_eq_true] at OW;have RE:vA fn.ntmps dst=true:=by
  have:=OW.2;simp only[cP,oI,Bool.and_true] at this;exact this
 generalize Ro:(fun(e:Ending) (w':World)=>∃ρ',e=.returned (real ρ' (cI vs))∧Inv P H0 ρ' (grow D h.next h5.next) h5 w'∧Ext ρ D h w ρ' h5 w'∧(cI vs).aP (grow D h.next h5.next))=R;have EW:∀l a w,¬bodyPostM Fence.wide n P fn R (.goto l) a w:=fun l a w hh=>hh;have L6:∀(code:Code),ay P code=rest→∀(ir:cn) (w2:World) (a2:Act),Inv P H0 ir (grow D h.next h2.next) h2 w2→Ext ρ D h w ir h2 w2→bz ir (grow D h.next h2.next) fn.ntmps (e2.put dst .undef) a2→
   aW (grow D h.next h2.next) first→aW (grow D h.next h2.next) aF→
   a2.defers=[{target:=.fn (.func g) (aa ir aF).toArray,args:=(aa ir first).toArray}]→code.wpIn Fence.wide n P (bodyPostM Fence.wide n P fn R) a2 w2:=by
  intro code fm ir w2 a2 i2 x2 M7 TA GV Nt;have hm2:iG a2.defers w2.heap.size ir (grow D h.next h2.next) h2 w2 a2.defers:=⟨[],rfl,List.nodup_nil,fun r hr=>by simp at hr⟩;refine Code.wpIn_mono ?_ (kq code fm fn.ntmps xM none rfl ir _ w2 a2 w2.heap.size n a2.defers i2 M7 hm2 (Nat.le_refl _));rintro ex a3 w3 ⟨QH,hex,i3,x3,ei3,m3,_⟩;have Nv:=dh D x2.next x3.next;have Pf:(nR x).aP (grow (grow D h.next h2.next) h2.next h3.next):=by
   rcases hx with rfl|rfl|⟨v,rfl⟩
   ·simp[nR,AV.aP]
   ·simp[nR,AV.aP]
   ·exact hex.2
  have kH:LeavesInM Fence.wide n P fn a3.tmps R a3.defers (mL QH x) w3:=by
   refine mj (u:=mL QH x) (by rcases hx with rfl|rfl|⟨v,rfl⟩<;>simp[mL]) i3 x3 m3 ?_;intro w4 i4 x4;rw[Nt];have hargs:aa ir first=aa QH first:=(dZ (fun b hb=>x4.bp b hb) first TA).symm
   have Rt:aa ir aF=aa QH aF:=(dZ (fun b hb=>x4.bp b hb) aF GV).symm;rw[hargs,Rt];refine⟨by rcases hx with rfl|rfl|⟨v,rfl⟩<;>simp[mL],.inr ⟨fun hh=>by simp[Fence.wide] at hh,.func g,(aa QH aF).toArray,g,(aa QH (first++aF)).toArray,rfl,?_,fun _ _=>trivial,?_⟩⟩
   ·simp only[invoke,tH]
    congr 2
    simp[gF]
   ·have hda:aW (grow (grow D h.next h2.next) h2.next h3.next) (first++aF):=by
     rw[aL];intro z hz;rcases List.mem_append.1 hz with hz|hz
     ·exact cz (fun b hb=>.inl hb) _ ((aL _ _).1 TA z hz)
     ·exact cz (fun b hb=>.inl hb) _ ((aL _ _).1 GV z hz)
    refine Ch sys hg BF hbody BG GY j7 mI IS hy i4 hda Pf ?_;intro WU v u' w5 ie i5 x5;show LeavesInM Fence.wide n P fn a3.tmps R [] (settle u') w5;rw[ie];have Sj:=Ext.trans i2.lt x4 x5;have RN:=dh (grow D h.next h2.next) x3.next x5.next;rw[RN] at i5;have RM:=dh D x2.next Sj.next;rw[RM] at i5;have ei5:bz WU (grow D h.next h5.next) fn.ntmps e3 a3:=by
     have:=ei3.mono (ρ':=WU) (D':=grow (grow (grow D h.next h2.next) h2.next h3.next) h3.next h5.next) x5.bp (fun _=>.inl);rw[RN,RM] at this;exact this
    have hrun:=kK (P:=P) (fn:=fn) ei5 i5 DD hres;refine⟨_,hrun.1,?_⟩;rw[←Ro];exact⟨WU,rfl,i5,Ext.trans hi.lt x2 Sj,hrun.2⟩
  rcases hx with rfl|rfl|⟨v,rfl⟩
  ·have hex:ex=.normal:=hex;subst hex;exact kH
  ·have hex:ex=.ret:=hex;subst hex;exact kH
  ·obtain⟨hex,_⟩:=hex;subst hex;exact kH
 have Mc:∀(code:Code),ay P code=.ops (l1++[oI dst r])→∀(c3:Code),ay P c3=rest→∀(pP:cn) (w1:World) (a1:Act),Inv P H0 pP (grow D h.next h1.next) h1 w1→Ext ρ D h w pP h1 w1→bz pP (grow D h.next h1.next) fn.ntmps e1 a1→
   a1.defers=[]→code.wpIn Fence.wide n P (Exit.then (c3.wpIn Fence.wide n P (bodyPostM Fence.wide n P fn R)) (bodyPostM Fence.wide n P fn R)) a1 w1:=by
  intro code;induction code with
  |scope c' ih=>
   intro fm c3 Vz pP w1 a1 i1 x1 FR Du;exact lY (fun l a w hh=>hh) (ih (by simpa[ay] using fm) c3 Vz pP w1 a1 i1 x1 FR Du)
  |region id os draw=>
   intro fm c3 Vz pP w1 a1 i1 x1 FR Du;obtain⟨id',os',hcd,hos⟩:=dD (code:=.region id os draw) rfl fm;simp only[Code.region.injEq] at hcd;obtain⟨_,rfl,rfl⟩:=hcd;refine wpIn_region_list ?_;have hsplit:os.toList=os.toList.take l1.length++os.toList.drop l1.length:=(List.take_append_drop _ _).symm;have hpre:(os.toList.take l1.length).map (bw P os)=l1:=by rw[List.map_take,hos];simp
   have IX:(os.toList.drop l1.length).map (bw P os)=[oI dst r]:=by rw[List.map_drop,hos];simp
   rw[hsplit];refine qh (ro:=none) Qs hpre OW.1 i1 FR ?_;intro ir w2 a2 i2 x2 M7 Nt;have Nv:=dh D x1.next x2.next;rw[Nv] at i2 M7;have x12:=Ext.trans hi.lt x1 x2;rcases II:os.toList.drop l1.length with _|⟨o,WD⟩
   ·rw[II] at IX;simp at IX
   ·rw[II] at IX;simp only[List.map_cons,List.cons.injEq,List.map_eq_nil_iff] at IX;obtain⟨hc0,rfl⟩:=IX;obtain⟨lC,hgd,cl,f0,R5,OF,hca,hrf⟩:=HD hc0;have AD:=aD M7 hrf;rw[hr] at AD;simp only[AV.aP] at AD;unfold wpListIn;rw[if_pos (by simp[Region.wanted,hgd])];refine⟨fun _ _=>trivial,?_⟩;have hrun:(Oper.semAt none a2.eval o).run P w2=.ok (.defer {target:=.fn (.func g) (aa ir aF).toArray,args:=(aa ir first).toArray}) w2:=by
     rw[Oper.semAt_none];unfold execOp;rw[R5];have hargs:cl.args.map a2.eval=#[]:=by
      apply Array.ext';simp[hca]
     simp[resolve,OF,AD.1,real,Deferred.ofValue,hargs,Sem.run_bind,Result.andThen]
    show o.uponIn Fence.wide n P a2 _ _ ((Oper.semAt none a2.eval o).run P w2);rw[hrun];rw[Oper.uponIn_defer];unfold wpListIn;show c3.wpIn Fence.wide n P (bodyPostM Fence.wide n P fn R) _ _;refine L6 c3 Vz ir w2 _ i2 x12 ?_ AD.2.2.1 AD.2.2.2 ?_
    ·have Vf:bz ir (grow D h.next h2.next) fn.ntmps e2 {a2 with defers:={target:=.fn (.func g) (aa ir aF).toArray,args:=(aa ir first).toArray}::a2.defers}:=⟨M7.size,M7.get,M7.dom⟩;have:=Vf.put (d:=dst) (v:=.undef) RE (by simp[AV.undef,AV.aP,aW]);rw[eY,←lC] at this;rw[←lC];exact this
    ·have Rz:a2.defers=[]:=Nt.trans Du;have:∀(a:Act) (d:Option Nat) (v:Value),(a.put d v).defers=a.defers:=by intro a d v;cases d<;>rfl
     rw[this];simp[Rz]
  |_=>intro fm;obtain⟨_,_,hcd,_⟩:=dD rfl fm;simp at hcd
 have BL:∀(code:Code),ay P code=.seq (.ops (l1++[oI dst r])) rest→∀(pP:cn) (w1:World) (a1:Act),Inv P H0 pP (grow D h.next h1.next) h1 w1→Ext ρ D h w pP h1 w1→bz pP (grow D h.next h1.next) fn.ntmps e1 a1→
   a1.defers=[]→code.wpIn Fence.wide n P (bodyPostM Fence.wide n P fn R) a1 w1:=by
  intro code;induction code with
  |scope c' ih=>
   intro fm pP w1 a1 i1 x1 FR Du;exact lY EW (ih (by simpa[ay] using fm) pP w1 a1 i1 x1 FR Du)
  |seq c1 c2 _ _=>
   intro fm pP w1 a1 i1 x1 FR Du;simp only[ay,AC.seq.injEq] at fm;exact wpIn_seq (Mc c1 fm.1 c2 fm.2 pP w1 a1 i1 x1 FR Du)
  |_=>intro fm;obtain⟨_,_,hcd,_⟩:=eT rfl fm;simp at hcd
 have Pe:∀(code:Code),ay P code=.seq A (.seq (.ops (l1++[oI dst r])) rest)→
   code.wpIn Fence.wide n P (bodyPostM Fence.wide n P fn R) {tmps:=(aa ρ args).toArray++Array.replicate (fn.ntmps-(aa ρ args).toArray.size) Go.undef,defers:=[]} w:=by
  intro code;induction code with
  |scope c' ih=>
   intro fm;exact lY EW (ih (by simpa[ay] using fm))
  |seq c1 c2 _ _=>
   intro fm;simp only[ay,AC.seq.injEq] at fm;refine wpIn_seq ?_;have hm:iG [] w.heap.size ρ D h w ([]:List Deferred):=⟨[],rfl,List.nodup_nil,fun r hr=>by simp at hr⟩;refine Code.wpIn_mono ?_ (hA c1 fm.1 fn.ntmps Wd none rfl ρ D w _ w.heap.size n [] hi he hm (Nat.le_refl _));rintro ex a1 w1 ⟨pP,hex,i1,x1,FR,m1,Du⟩;have hex:ex=.normal:=hex;subst hex;exact BL c2 fm.2 pP w1 a1 i1 x1 FR (Du EY)
  |_=>intro fm;obtain⟨_,_,hcd,_⟩:=eT rfl fm;simp at hcd
 exact Pe c mh
end
end Ads
end Go.Proofs.Ytecdcefacdodgaa
