/-
  What big steps mean in the model: a function that defers a closure which recovers.
-/
import Derived.Test.YtepdklcpagielaaAdsCall
import Derived.RecoverIn
set_option linter.unusedSimpArgs false
set_option linter.unusedVariables false
namespace Go.Proofs.Ytepdklcpagielaa
namespace Ads
section
variable {P:Program} {H0 W0:Nat} {ρ ρ':de} {D D':Dom} {h h' h1:Heap} {w w':World} {N n:Nat} {env e e':Env} {a:Act} {ro:Option Nat} {rd:Bool}
theorem uS{ops:Array Oper}{o:Oper}{i:bK}{as:List bV}(hc:bY P ops o=i)(hop:i.op=.bad)(has:i.args=as)(hl:as.length=4):xT o=as∧i.dst=o.dst:=by
 unfold bY at hc;simp only at hc;split at hc
 ·rename_i g op as' hg fh;subst hc;simp only at hop has;subst hop has;have:=KD fh;omega
 ·subst hc;exact⟨has,rfl⟩
theorem KH{ops:Array Oper}{o:Oper}{dst:Option Nat}{r:bV}(hc:bY P ops o=qJ dst r):o.dst=dst∧o.guard=none∧∃c f,o.op=.defer c∧c.callee=.value f∧c.args.toList=[]∧ec f=some r:=by
 obtain⟨h1,h2⟩:=uS (as:=[.c (.bool true),r,r,r]) hc rfl rfl rfl;refine⟨h2.symm,?_⟩;unfold xT at h1;split at h1
 ·rename_i c hg ho;split at h1
  ·rename_i f hcb hca;split at h1
   ·rename_i r' hr;simp only[List.cons.injEq,and_true,true_and] at h1;exact⟨hg,c,f,ho,hcb,hca,by rw[hr,h1.1]⟩
   ·simp at h1
  ·simp at h1
 ·split at h1
  ·simp at h1
  ·simp at h1
 ·simp at h1
theorem P3{ops:Array Oper}{o:Oper}{t:Nat}(hc:bY P ops o=zu t):o.dst=some t∧o.guard=none∧∃c,o.op=.call c∧c.callee=.builtin .recover:=by
 obtain⟨h1,h2⟩:=uS (as:=[.c (.bool false),.c (.bool false),.c (.bool false),.c (.bool false)]) hc rfl rfl rfl;refine⟨h2.symm,?_⟩;unfold xT at h1;split at h1
 ·split at h1
  ·split at h1
   ·simp at h1
   ·simp at h1
  ·simp at h1
 ·rename_i c hg ho;split at h1
  ·rename_i hcb;exact⟨hg,c,ho,hcb⟩
  ·simp at h1
 ·simp at h1
theorem xG{F:Fence}{Q:Exit→Act→List Frame→World→Prop}{cs:List Frame}{c:Code}(hq:∀l a cs w,¬Q (.goto l) a cs w)(h:c.wpSIn F n P Q a cs w):(Code.scope c).wpSIn F n P Q a cs w:=by
 intro b k hkd hro hb hr;obtain⟨e,a₁,cs₁,w₁,hl,pg,iG⟩:=h b (.inScope c::k) hkd hro hb hr;have s0:step P (lone (b.atR a (.code (.scope c)::k)) cs w)=.next (lone (b.atR a (.code c::.inScope c::k)) cs w):=
  step_lone_go (by simp[stepG,stepG.exec,Frame.atR])
 have s1:∀(a:Act) (cs:List Frame) (w:World),step P (lone (b.atR a (.inScope c::k)) cs w)=.next (lone (b.atR a k) cs w):=fun a cs w=>
  step_lone_go (by simp[stepG,stepG.exec,Frame.atR])
 have f0:(lone (b.atR a (.code (.scope c)::k)) cs w).fenced P F:=fenced_calm hb hr rfl;have hs:StepsIn (Machine.fenced P F) P (lone (b.atR a (.code (.scope c)::k)) cs w) (lone (b.atR a (.code c::.inScope c::k)) cs w):=.one f0 s0;cases e with
 |normal=>exact⟨.normal,a₁,cs₁,w₁,hl,pg,hs.trans (StepsIn.trans iG (.one (fenced_calm (fr:=b.atR a₁ (.inScope c::k)) hb (hl▸hr) rfl) (s1 a₁ cs₁ w₁)))⟩
 |exit id=>
  refine⟨.exit id,a₁,cs₁,w₁,hl,pg,fun k' hk=>hs.trans (iG.1 k' (by simp[exitTo,hk])),fun hr hk=>?_⟩;obtain⟨k₁,h1,h2⟩:=iG.2 hr (by simp[exitTo,hk]);exact⟨k₁,h1,hs.trans h2⟩
 |goto l=>exact absurd pg (hq l a₁ cs₁ w₁)
 |ret=>exact⟨_,a₁,cs₁,w₁,hl,pg,fun hr=>let⟨todo,h1⟩:=iG.1 hr;⟨todo,hs.trans h1⟩,fun hr=>let⟨k₁,h1⟩:=iG.2 hr;⟨k₁,hs.trans h1⟩⟩
 |panic ch=>obtain⟨todo,h1⟩:=iG;exact⟨_,a₁,cs₁,w₁,hl,pg,todo,hs.trans h1⟩
 |outgrown=>exact⟨_,a₁,cs₁,w₁,hl,pg,iG.imp id (Outgrown.of_steps hs.steps)⟩
theorem BT{F:Fence}{Q:Exit→Act→List Frame→World→Prop}{cs:List Frame}(hF:∀f,F.fn f){ops:Array Oper}:∀{os:List Oper} {k:Nat},(∀j,j<os.length→ops[k+j]?=os[j]?)→∀{l:List bK} {e:Env} {tr:List aQ} {e':Env},OT P H0 l e h tr e' h→
  os.map (bY P ops)=l→mH l=true→dQ N l=true→∀{a:Act},cg ρ D N e a→
  (∀a',cg ρ D N e' a'→a'.defers=a.defers→Q .normal a' cs w)→wpOpsSIn F n P ops Q (List.range' k os.length) a cs w
 |[],k,Fc,l,e,tr,e',mD,hos,m9,hok,a,he,hk=>by
  simp only[List.map_nil] at hos;subst hos;cases tr with
  |cons m tr=>simp[OT] at mD
  |nil=>
   simp only[OT] at mD;obtain⟨rfl,_⟩:=mD;exact hk a he rfl
 |o::os,k,Fc,l,e,tr,e',mD,hos,m9,hok,a,he,hk=>by
  simp only[List.map_cons] at hos;subst hos;cases tr with
  |nil=>simp[OT] at mD
  |cons m tr=>
   have h0:ops[k]?=some o:=by have:=Fc 0 (by simp);simpa using this
   obtain⟨q,hq⟩:∃q,bY P ops o=q:=⟨_,rfl⟩;rw[hq] at mD m9 hok;obtain⟨qd,qg,qop,Rp⟩:=q;have nJ:=(dA hq).1;simp only[dQ,Bool.and_eq_true] at hok;simp only[mH,Bool.and_eq_true] at m9;simp only[OT] at mD;obtain⟨D8,Bz,mD⟩:=mD;simp only at nJ;cases qop<;>cases qg<;>simp at m9
   rename_i p;rcases mD with⟨dZ,hw,hv,mS⟩|⟨dZ,hw,h1,hop,mS⟩
   ·simp[cz] at hw
   ·obtain⟨hp,VZ⟩:=hop;rw[VZ] at mS;have hc:=((dA hq).2 (.inl (by simp))).1;simp only at hc;have jN:=eW hq (.inl (by simp)) he;rw[Bz] at hp;have Ux:=zm (w:=w) he hc hp;rw[List.length_cons,List.range'_succ];unfold wpOpsSIn;rw[h0];simp only;refine⟨fun f _=>hF f,?_⟩;rw[if_pos (by rw[jN,hw]),Ux.1];simp only;rw[←nJ];refine BT hF (k:=k+1) (fun j hj=>?_) mS rfl m9 hok.2 (he.put hok.1 Ux.2) (fun a' g1 g2=>hk a' g1 (g2.trans (by cases qd<;>rfl)));have:=Fc (j+1) (by simp only[List.length_cons];omega);rw[show k+1+j=k+(j+1) by omega,this,List.getElem?_cons_succ]
def oO(ρ:de):AX→FrameMode
 |.panic v=>.panicking [{v:=real ρ v,recovered:=false}]
 |_=>.returning
theorem EF{ρ:de}{x:AX}{c₀:Frame}{cs:List Frame}(hm:c₀.mode=oO ρ x):
  ∃u',settle u'=.returning∧((recoverD (c₀::cs)=some (real ρ (oQ x),{c₀ with mode:=u'}::cs))∨(recoverD (c₀::cs)=none∧real ρ (oQ x)=.nilIface∧u'=c₀.mode)):=by
 cases x with
 |panic v=>exact⟨.panicking [{v:=real ρ v,recovered:=true}],rfl,.inl (by simp[recoverD,hm,oO,oQ])⟩
 |normal=>exact⟨.returning,rfl,.inr ⟨by simp[recoverD,hm,oO],by simp[oQ,real],by rw[hm];rfl⟩⟩
 |ret=>exact⟨.returning,rfl,.inr ⟨by simp[recoverD,hm,oO],by simp[oQ,real],by rw[hm];rfl⟩⟩
 |exit id=>exact⟨.returning,rfl,.inr ⟨by simp[recoverD,hm,oO],by simp[oQ,real],by rw[hm];rfl⟩⟩
theorem EL{fs:Nat→Option aB}{ms:Nat→String→Option Nat}(sys:lW P fs ms){g:Nat}{args:List AV}{ag:aB}{x y:AX}{t:Nat}{l2:List bK}{eE:AC}{AP:List aQ}{e4 e5:Env}{h5:Heap}
  (hg:fs g=some ag)(hlen:args.length≤ag.ntmps)(hbody:ag.body=.seq (.ops (zu t::l2)) eE)(hres:ag.results=[])(Hz:bp eE=true)
  (mD:OT P H0 l2 ((Env.start ag.ntmps args).put (some t) (oQ x)) h AP e4 h)(m9:mH l2=true)(mS:bW P H0 false eE e4 h y e5 h5)(hy:y=.normal∨y=.ret)
  {R:Ending→FrameMode→World→Prop}(hi:Inv P H0 ρ D h w)(hd:bE D args)(SR:(oQ x).bq D)
  (hk:∀ρ' v u' w',settle u'=.returning→Inv P H0 ρ' (grow D h.next h5.next) h5 w'→Ext ρ D h w ρ' h5 w'→R (.returned v) u' w'):
  CallsDIn Fence.wide n P g (aA ρ args).toArray (oO ρ x) w R:=by
 obtain⟨fn,hfn,FT⟩:=sys.yN g ag hg;obtain⟨c,rs,hb,hr,hname,hok,rfl⟩:=ja FT;simp only at hlen hbody hres;refine callsDIn_of_wpSIn hfn hb trivial ?_;intro c₀ cs hm;have he:=oZ (ρ:=ρ) hd hlen;obtain⟨u',gB,LB⟩:=EF (cs:=cs) hm;have Ht:∀l a cs' w,¬bodyPostS P fn c₀ cs R (.goto l) a cs' w:=fun l a cs' w hh=>hh;have wo:∀(code:Code),aK P code=eE→codeOk fn.ntmps eE=true→∀(a:Act),cg ρ D fn.ntmps e4 a→a.defers=[]→
   code.wpSIn Fence.wide n P (bodyPostS P fn c₀ cs R) a ({c₀ with mode:=u'}::cs) w:=by
  intro code fh Cv a he4 had;refine wpSIn_of_wpIn rfl ?_;have hm0:kB [] w.heap.size ρ D h w a.defers:=⟨[],by rw[had];rfl,List.nodup_nil,fun r hr=>by simp at hr⟩;refine Code.wpIn_mono ?_ (mS code fh fn.ntmps Cv none rfl ρ D w a w.heap.size n [] hi he4 hm0 (Nat.le_refl _));rintro ex a' w' ⟨ρ',hex,g1,g2,g3,g4,g5⟩;have VH:=(g5 Hz).trans had;have hrun:=m6 (P:=P) (fn:=fn) (vs:=[]) g3 g1 hr (by rw[hres];rfl);rcases hy with rfl|rfl
  ·have hex:ex=.normal:=hex;subst hex;exact⟨VH,u',rfl,_,hrun.1,hk ρ' _ u' w' gB g1 g2⟩
  ·have hex:ex=.ret:=hex;subst hex;exact⟨VH,u',rfl,_,hrun.1,hk ρ' _ u' w' gB g1 g2⟩
 have hcb:∀(code:Code),aK P code=.seq (.ops (zu t::l2)) eE→codeOk fn.ntmps (.seq (.ops (zu t::l2)) eE)=true→
   code.wpSIn Fence.wide n P (bodyPostS P fn c₀ cs R) {tmps:=(aA ρ args).toArray++Array.replicate (fn.ntmps-(aA ρ args).toArray.size) Go.undef,defers:=[]} (c₀::cs) w:=by
  intro code;induction code with
  |scope c' ih=>
   intro fh Cv;exact xG Ht (ih (by simpa[aK] using fh) Cv)
  |seq c1 c2 _ _=>
   intro fh Cv;simp only[aK,AC.seq.injEq] at fh;simp only[codeOk,Bool.and_eq_true] at Cv;refine wpSIn_seq ?_;have Ea:∀(code:Code),aK P code=.ops (zu t::l2)→
     code.wpSIn Fence.wide n P (Exit.thenS (c2.wpSIn Fence.wide n P (bodyPostS P fn c₀ cs R)) (bodyPostS P fn c₀ cs R)) {tmps:=(aA ρ args).toArray++Array.replicate (fn.ntmps-(aA ρ args).toArray.size) Go.undef,defers:=[]} (c₀::cs) w:=by
    intro code;induction code with
    |scope c' ih=>
     intro fh;exact xG (fun l a cs' w hh=>hh) (ih (by simpa[aK] using fh))
    |region id os draw=>
     intro VA;obtain⟨id',os',hcd,hos⟩:=eP (code:=.region id os draw) rfl VA;simp only[Code.region.injEq] at hcd;obtain⟨_,rfl,rfl⟩:=hcd;refine wpSIn_region ?_;rcases Lv:os.toList with _|⟨o,os1⟩
     ·rw[Lv] at hos;simp at hos
     ·rw[Lv] at hos;simp only[List.map_cons,List.cons.injEq] at hos;obtain⟨nJ,hgd,c0,Nv,Sn⟩:=P3 hos.1;have hsz:os.size=os1.length+1:=by rw[←Array.length_toList,Lv];rfl
      have h0:os[0]?=some o:=by rw[←Array.getElem?_toList,Lv];rfl
      rw[hsz,List.range_eq_range',List.range'_succ];unfold wpOpsSIn;rw[h0];simp only;refine⟨fun _ _=>trivial,?_⟩;rw[if_pos (by simp[Region.wanted,hgd])];have hrun:(execOp (Act.eval {tmps:=(aA ρ args).toArray++Array.replicate (fn.ntmps-(aA ρ args).toArray.size) Go.undef,defers:=[]}) o).run P w=.ok .recover w:=by
       unfold execOp;rw[Nv];simp[resolve,Sn,Sem.run_bind,Result.andThen,invoke,builtin]
      rw[hrun];simp only;have htb:yE fn.ntmps (some t)=true:=by
       have:=Cv.1;simp only[dQ,zu,Bool.and_eq_true] at this;exact this.1
      have abM:dQ fn.ntmps l2=true:=by
       have:=Cv.1;simp only[dQ,Bool.and_eq_true] at this;exact this.2
      have oN:∀v,v=real ρ (oQ x)→wpOpsSIn Fence.wide n P os (Exit.thenS (c2.wpSIn Fence.wide n P (bodyPostS P fn c₀ cs R)) (bodyPostS P fn c₀ cs R)) (List.range' (0+1) os1.length) (Act.put {tmps:=(aA ρ args).toArray++Array.replicate (fn.ntmps-(aA ρ args).toArray.size) Go.undef,defers:=[]} o.dst v) ({c₀ with mode:=u'}::cs) w:=by
       rintro v rfl;rw[nJ];refine BT (fun _=>trivial) (k:=0+1) (fun j hj=>?_) mD hos.2 m9 abM (he.put htb SR) (fun a' k1 k2=>?_)
       ·rw[←Array.getElem?_toList,Lv,show 0+1+j=j+1 by omega,List.getElem?_cons_succ]
       ·exact wo c2 fh.2 Cv.2 a' k1 k2
      rcases LB with LB|⟨LB,hni,hu'⟩
      ·rw[LB];exact oN _ rfl
      ·rw[LB];simp only;have:=oN .nilIface hni.symm;rw[hu'] at this;exact this
    |_=>intro VA;obtain⟨_,_,hcd,_⟩:=eP rfl VA;simp at hcd
   exact Ea c1 fh.1
  |_=>intro fh Cv;obtain⟨_,_,hcd,_⟩:=gG rfl fh;simp at hcd
 rw[hbody] at hok;exact hcb c hbody hok
theorem JA{fs:Nat→Option aB}{ms:Nat→String→Option Nat}(sys:lW P fs ms){f:Nat}{args:List AV}{af:aB}{A rest:AC}{l1:List bK}{dst:Option Nat}{r:bV}{e1 e2 e3:Env}{h2 h3:Heap}{tr:List aQ}{g:Nat}{first aN:List AV}{ag:aB}{x y:AX}{t:Nat}{l2:List bK}{eE:AC}{AP:List aQ}{e4 e5:Env}{h5:Heap}{vs:List AV}
  (hf:fs f=some af)(hlen:args.length≤af.ntmps)(wz:af.body=.seq A (.seq (.ops (l1++[qJ dst r])) rest))(hA:bW P H0 false A (Env.start af.ntmps args) h .normal e1 h1)(Hy:bp A=true)(J0:OT P H0 l1 e1 h1 tr e2 h2)(hr:e2.ev r=.func (.func g) first aN)
  (mS:bW P H0 false rest (e2.put dst .undef) h2 x e3 h3)(hx:x=.normal∨x=.ret∨∃v,x=.panic v)
  (hg:fs g=some ag)(D6:(first++aN).length≤ag.ntmps)(hbody:ag.body=.seq (.ops (zu t::l2)) eE)(D7:ag.results=[])(Hz:bp eE=true)
  (mD:OT P H0 l2 ((Env.start ag.ntmps (first++aN)).put (some t) (oQ x)) h3 AP e4 h3)(m9:mH l2=true)(LC:bW P H0 false eE e4 h3 y e5 h5)(hy:y=.normal∨y=.ret)
  (wu:∀(args:Array Value) (w:World),(callFunc g args).run P w=.ok (.enter g args) w)
  (hres:iu e3 h5 af.results=some vs):iy P H0 f args h (dz vs) h5:=by
 obtain⟨fn,hfn,FT⟩:=sys.yN f af hf;obtain⟨c,rs,hb,xO,hname,hok,rfl⟩:=ja FT;simp only at hlen wz hres;intro ρ D w n hi hd;refine callsIn_of_wp_marks hfn hb trivial ?_;have he:=oZ (ρ:=ρ) hd hlen;rw[wz] at hok;simp only[codeOk,Bool.and_eq_true] at hok;obtain⟨abN,SC,abO⟩:=hok;rw[s9,Bool.and_eq_true] at SC;have VJ:yE fn.ntmps dst=true:=by
  have:=SC.2;simp only[dQ,qJ,Bool.and_true] at this;exact this
 generalize Vq:(fun(e:Ending) (w':World)=>∃ρ',e=.returned (real ρ' (dz vs))∧Inv P H0 ρ' (grow D h.next h5.next) h5 w'∧Ext ρ D h w ρ' h5 w'∧(dz vs).bq (grow D h.next h5.next))=R;have Ht:∀l a w,¬bodyPostM Fence.wide n P fn R (.goto l) a w:=fun l a w hh=>hh;have O9:∀(code:Code),aK P code=rest→∀(j4:de) (w2:World) (a2:Act),Inv P H0 j4 (grow D h.next h2.next) h2 w2→Ext ρ D h w j4 h2 w2→cg j4 (grow D h.next h2.next) fn.ntmps (e2.put dst .undef) a2→
   bE (grow D h.next h2.next) first→bE (grow D h.next h2.next) aN→
   a2.defers=[{target:=.fn (.func g) (aA j4 aN).toArray,args:=(aA j4 first).toArray}]→code.wpIn Fence.wide n P (bodyPostM Fence.wide n P fn R) a2 w2:=by
  intro code fh j4 w2 a2 i2 x2 QI Y0 JY Ur;have hm2:kB a2.defers w2.heap.size j4 (grow D h.next h2.next) h2 w2 a2.defers:=⟨[],rfl,List.nodup_nil,fun r hr=>by simp at hr⟩;refine Code.wpIn_mono ?_ (mS code fh fn.ntmps abO none rfl j4 _ w2 a2 w2.heap.size n a2.defers i2 QI hm2 (Nat.le_refl _));rintro ex a3 w3 ⟨UG,hex,i3,x3,ei3,m3,_⟩;have Q7:=eD D x2.next x3.next;have SR:(oQ x).bq (grow (grow D h.next h2.next) h2.next h3.next):=by
   rcases hx with rfl|rfl|⟨v,rfl⟩
   ·simp[oQ,AV.bq]
   ·simp[oQ,AV.bq]
   ·exact hex.2
  have jM:LeavesInM Fence.wide n P fn a3.tmps R a3.defers (oO UG x) w3:=by
   refine oz (u:=oO UG x) (by rcases hx with rfl|rfl|⟨v,rfl⟩<;>simp[oO]) i3 x3 m3 ?_;intro w4 i4 x4;rw[Ur];have hargs:aA j4 first=aA UG first:=(fD (fun b hb=>x4.bS b hb) first Y0).symm
   have Vy:aA j4 aN=aA UG aN:=(fD (fun b hb=>x4.bS b hb) aN JY).symm;rw[hargs,Vy];refine⟨by rcases hx with rfl|rfl|⟨v,rfl⟩<;>simp[oO],.inr ⟨fun hh=>by simp[Fence.wide] at hh,.func g,(aA UG aN).toArray,g,(aA UG (first++aN)).toArray,rfl,?_,fun _ _=>trivial,?_⟩⟩
   ·simp only[invoke,wu]
    congr 2
    simp[jg]
   ·have hda:bE (grow (grow D h.next h2.next) h2.next h3.next) (first++aN):=by
     rw[aV];intro z hz;rcases List.mem_append.1 hz with hz|hz
     ·exact dB (fun b hb=>.inl hb) _ ((aV _ _).1 Y0 z hz)
     ·exact dB (fun b hb=>.inl hb) _ ((aV _ _).1 JY z hz)
    refine EL sys hg D6 hbody D7 Hz mD m9 LC hy i4 hda SR ?_;intro ρ5 v u' w5 gB i5 x5;show LeavesInM Fence.wide n P fn a3.tmps R [] (settle u') w5;rw[gB];have Wp:=Ext.trans i2.lt x4 x5;have VW:=eD (grow D h.next h2.next) x3.next x5.next;rw[VW] at i5;have VV:=eD D x2.next Wp.next;rw[VV] at i5;have ei5:cg ρ5 (grow D h.next h5.next) fn.ntmps e3 a3:=by
     have:=ei3.mono (ρ':=ρ5) (D':=grow (grow (grow D h.next h2.next) h2.next h3.next) h3.next h5.next) x5.bS (fun _=>.inl);rw[VW,VV] at this;exact this
    have hrun:=m6 (P:=P) (fn:=fn) ei5 i5 xO hres;refine⟨_,hrun.1,?_⟩;rw[←Vq];exact⟨ρ5,rfl,i5,Ext.trans hi.lt x2 Wp,hrun.2⟩
  rcases hx with rfl|rfl|⟨v,rfl⟩
  ·have hex:ex=.normal:=hex;subst hex;exact jM
  ·have hex:ex=.ret:=hex;subst hex;exact jM
  ·obtain⟨hex,_⟩:=hex;subst hex;exact jM
 have Pf:∀(code:Code),aK P code=.ops (l1++[qJ dst r])→∀(c3:Code),aK P c3=rest→∀(sF:de) (w1:World) (a1:Act),Inv P H0 sF (grow D h.next h1.next) h1 w1→Ext ρ D h w sF h1 w1→cg sF (grow D h.next h1.next) fn.ntmps e1 a1→
   a1.defers=[]→code.wpIn Fence.wide n P (Exit.then (c3.wpIn Fence.wide n P (bodyPostM Fence.wide n P fn R)) (bodyPostM Fence.wide n P fn R)) a1 w1:=by
  intro code;induction code with
  |scope c' ih=>
   intro fh c3 hc3 sF w1 a1 i1 x1 IN D2;exact nZ (fun l a w hh=>hh) (ih (by simpa[aK] using fh) c3 hc3 sF w1 a1 i1 x1 IN D2)
  |region id os draw=>
   intro fh c3 hc3 sF w1 a1 i1 x1 IN D2;obtain⟨id',os',hcd,hos⟩:=eP (code:=.region id os draw) rfl fh;simp only[Code.region.injEq] at hcd;obtain⟨_,rfl,rfl⟩:=hcd;refine wpIn_region_list ?_;have hsplit:os.toList=os.toList.take l1.length++os.toList.drop l1.length:=(List.take_append_drop _ _).symm;have hpre:(os.toList.take l1.length).map (bY P os)=l1:=by rw[List.map_take,hos];simp
   have LH:(os.toList.drop l1.length).map (bY P os)=[qJ dst r]:=by rw[List.map_drop,hos];simp
   rw[hsplit];refine td (ro:=none) J0 hpre SC.1 i1 IN ?_;intro j4 w2 a2 i2 x2 QI Ur;have Q7:=eD D x1.next x2.next;rw[Q7] at i2 QI;have x12:=Ext.trans hi.lt x1 x2;rcases Lv:os.toList.drop l1.length with _|⟨o,os1⟩
   ·rw[Lv] at LH;simp at LH
   ·rw[Lv] at LH;simp only[List.map_cons,List.cons.injEq,List.map_eq_nil_iff] at LH;obtain⟨hc0,rfl⟩:=LH;obtain⟨nJ,hgd,cl,f0,Nv,Sn,hca,hrf⟩:=KH hc0;have De:=aM QI hrf;rw[hr] at De;simp only[AV.bq] at De;unfold wpListIn;rw[if_pos (by simp[Region.wanted,hgd])];refine⟨fun _ _=>trivial,?_⟩;have hrun:(Oper.semAt none a2.eval o).run P w2=.ok (.defer {target:=.fn (.func g) (aA j4 aN).toArray,args:=(aA j4 first).toArray}) w2:=by
     rw[Oper.semAt_none];unfold execOp;rw[Nv];have hargs:cl.args.map a2.eval=#[]:=by
      apply Array.ext';simp[hca]
     simp[resolve,Sn,De.1,real,Deferred.ofValue,hargs,Sem.run_bind,Result.andThen]
    show o.uponIn Fence.wide n P a2 _ _ ((Oper.semAt none a2.eval o).run P w2);rw[hrun];rw[Oper.uponIn_defer];unfold wpListIn;show c3.wpIn Fence.wide n P (bodyPostM Fence.wide n P fn R) _ _;refine O9 c3 hc3 j4 w2 _ i2 x12 ?_ De.2.2.1 De.2.2.2 ?_
    ·have aaK:cg j4 (grow D h.next h2.next) fn.ntmps e2 {a2 with defers:={target:=.fn (.func g) (aA j4 aN).toArray,args:=(aA j4 first).toArray}::a2.defers}:=⟨QI.size,QI.get,QI.dom⟩;have:=aaK.put (d:=dst) (v:=.undef) VJ (by simp[AV.undef,AV.bq,bE]);rw[gM,←nJ] at this;rw[←nJ];exact this
    ·have Li:a2.defers=[]:=Ur.trans D2;have:∀(a:Act) (d:Option Nat) (v:Value),(a.put d v).defers=a.defers:=by intro a d v;cases d<;>rfl
     rw[this];simp[Li]
  |_=>intro fh;obtain⟨_,_,hcd,_⟩:=eP rfl fh;simp at hcd
 have Ec:∀(code:Code),aK P code=.seq (.ops (l1++[qJ dst r])) rest→∀(sF:de) (w1:World) (a1:Act),Inv P H0 sF (grow D h.next h1.next) h1 w1→Ext ρ D h w sF h1 w1→cg sF (grow D h.next h1.next) fn.ntmps e1 a1→
   a1.defers=[]→code.wpIn Fence.wide n P (bodyPostM Fence.wide n P fn R) a1 w1:=by
  intro code;induction code with
  |scope c' ih=>
   intro fh sF w1 a1 i1 x1 IN D2;exact nZ Ht (ih (by simpa[aK] using fh) sF w1 a1 i1 x1 IN D2)
  |seq c1 c2 _ _=>
   intro fh sF w1 a1 i1 x1 IN D2;simp only[aK,AC.seq.injEq] at fh;exact wpIn_seq (Pf c1 fh.1 c2 fh.2 sF w1 a1 i1 x1 IN D2)
  |_=>intro fh;obtain⟨_,_,hcd,_⟩:=gG rfl fh;simp at hcd
 have y3:∀(code:Code),aK P code=.seq A (.seq (.ops (l1++[qJ dst r])) rest)→
   code.wpIn Fence.wide n P (bodyPostM Fence.wide n P fn R) {tmps:=(aA ρ args).toArray++Array.replicate (fn.ntmps-(aA ρ args).toArray.size) Go.undef,defers:=[]} w:=by
  intro code;induction code with
  |scope c' ih=>
   intro fh;exact nZ Ht (ih (by simpa[aK] using fh))
  |seq c1 c2 _ _=>
   intro fh;simp only[aK,AC.seq.injEq] at fh;refine wpIn_seq ?_;have hm:kB [] w.heap.size ρ D h w ([]:List Deferred):=⟨[],rfl,List.nodup_nil,fun r hr=>by simp at hr⟩;refine Code.wpIn_mono ?_ (hA c1 fh.1 fn.ntmps abN none rfl ρ D w _ w.heap.size n [] hi he hm (Nat.le_refl _));rintro ex a1 w1 ⟨sF,hex,i1,x1,IN,m1,D2⟩;have hex:ex=.normal:=hex;subst hex;exact Ec c2 fh.2 sF w1 a1 i1 x1 IN (D2 Hy)
  |_=>intro fh;obtain⟨_,_,hcd,_⟩:=gG rfl fh;simp at hcd
 exact y3 c wz
end
end Ads
end Go.Proofs.Ytepdklcpagielaa
