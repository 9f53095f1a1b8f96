/-
  What big steps mean in the model: operations, calls, regions in the text's order.
-/
import Derived.Test.YtepdklcpagielaaAdsBig
set_option linter.unusedSimpArgs false
set_option linter.unusedVariables false
namespace Go.Proofs.Ytepdklcpagielaa
namespace Ads
def FW(ro:Option Nat):Fence:={Fence.wide with round:=ro}
def marksOf(rs:List Nat):List Deferred:=rs.map fun r=>{target:=.collected r,args:=#[]}
def kB(tl:List Deferred)(W0:Nat)(ρ:de)(D:Dom)(h:Heap)(w:World)(ds:List Deferred):Prop:=
 ∃rs,ds=marksOf rs++tl∧rs.Nodup∧∀r∈rs,W0≤r∧w.heap[r]?=some (.deferred (some []))∧∀b,D b→h.get b≠none→(ρ b).cj≠r
section
variable (P:Program) (H0:Nat)
def QF(op:gP)(vals:List AV)(h:Heap)(v:AV)(h1:Heap):Prop:=
 ∀(o:Oper) (rs:List bV),aH P o.op=some (op,rs)→∀(ρ:de) (D:Dom) (w:World) (a:Act) (N:Nat) (env:Env) (ro:Option Nat) (n:Nat),
  Inv P H0 ρ D h w→cg ρ D N env a→rs.map env.ev=vals→∀(next:Act→World→Prop) (Q:Exit→Act→World→Prop),
  (∀ρ' w',Inv P H0 ρ' (grow D h.next h1.next) h1 w'→Ext ρ D h w ρ' h1 w'→v.bq (grow D h.next h1.next)→next (a.put o.dst (real ρ' v)) w')→
  o.wpIn (FW ro) n P a w next Q
def xJ(op:gP)(vals:List AV)(h:Heap)(v:AV)(h1:Heap):Prop:=
 match op with
 |.p o=>pI o vals=some v∧h1=h
 |.a o=>∃x f,aI o vals=some (x,f)∧v=f h.next∧h1=h.new x
 |.r o=>rI o vals h=some v∧h1=h
 |.bad=>False
 |op=>QF P H0 op vals h v h1
def OT:List bK→Env→Heap→List aQ→Env→Heap→Prop
 |[],e,h,[],e',h'=>e'=e∧h'=h
 |i::l,e,h,m::tr,e',h'=>m.h=h∧m.vals=i.args.map e.ev∧
   ((m.on=false∧cz i e=false∧m.v=.undef∧OT l (e.put i.dst .undef) h tr e' h')∨
    (m.on=true∧cz i e=true∧∃h1,xJ P H0 i.op m.vals h m.v h1∧OT l (e.put i.dst m.v) h1 tr e' h'))
 |_,_,_,_,_,_=>False
def iy(f:Nat)(args:List AV)(h:Heap)(v:AV)(h1:Heap):Prop:=
 ∀(ρ:de) (D:Dom) (w:World) (n:Nat),Inv P H0 ρ D h w→bE D args→CallsIn Fence.wide n P f (aA ρ args).toArray w fun e w'=>
  ∃ρ',e=.returned (real ρ' v)∧Inv P H0 ρ' (grow D h.next h1.next) h1 w'∧Ext ρ D h w ρ' h1 w'∧v.bq (grow D h.next h1.next)
def uM(fv:AV)(args:List AV)(h:Heap)(v:AV)(h1:Heap):Prop:=
 ∀(ρ:de) (D:Dom) (w:World),Inv P H0 ρ D h w→fv.bq D→bE D args→∀(o:Oper) (a:Act) (ro:Option Nat) (n:Nat) (next:Act→World→Prop) (Q:Exit→Act→World→Prop),
  (∀ρ' w',Inv P H0 ρ' (grow D h.next h1.next) h1 w'→Ext ρ D h w ρ' h1 w'→v.bq (grow D h.next h1.next)→next (a.put o.dst (real ρ' v)) w')→
  o.uponIn (FW ro) n P a next Q ((do let d ←Deferred.ofValue (real ρ fv) (aA ρ args).toArray;invoke d.target d.args:Sem Next).run P w)
def Kc(ρ:de)(D:Dom):AX→Exit→Prop
 |.normal,ex=>ex=.normal
 |.exit id,ex=>ex=.exit id
 |.ret,ex=>ex=.ret
 |.panic v,ex=>ex=.panic [{v:=real ρ v,recovered:=false}]∧v.bq D
def om(nr:Bool)(ds:List Deferred)(tl:List Deferred)(W0:Nat)(ρ:de)(D:Dom)(h:Heap)(w:World)(N:Nat)(x:AX)(e':Env)(h':Heap):Exit→Act→World→Prop:=fun ex a' w'=>
 ∃ρ',Kc ρ' (grow D h.next h'.next) x ex∧Inv P H0 ρ' (grow D h.next h'.next) h' w'∧Ext ρ D h w ρ' h' w'∧cg ρ' (grow D h.next h'.next) N e' a'∧kB tl W0 ρ' (grow D h.next h'.next) h' w' a'.defers∧(nr=true→a'.defers=ds)
def bW(rd:Bool)(c:AC)(e:Env)(h:Heap)(x:AX)(e':Env)(h':Heap):Prop:=
 ∀(code:Code),aK P code=c→∀(N:Nat),codeOk N c=true→∀(ro:Option Nat),ro.isSome=rd→∀(ρ:de) (D:Dom) (w:World) (a:Act) (W0 n:Nat) (tl:List Deferred),
  Inv P H0 ρ D h w→cg ρ D N e a→kB tl W0 ρ D h w a.defers→W0≤w.heap.size→code.wpIn (FW ro) n P (om P H0 (bp c) a.defers tl W0 ρ D h w N x e' h') a w
def oJ(op:gP)(vals:List AV)(h:Heap)(v:AV)(h1:Heap):Prop:=
 ∀(o:Oper) (rs:List bV),aH P o.op=some (op,rs)→∀(ρ:de) (D:Dom) (w:World) (a:Act) (N:Nat) (env:Env) (ro:Option Nat) (n:Nat),
  Inv P H0 ρ D h w→cg ρ D N env a→rs.map env.ev=vals→∀(next:Act→World→Prop) (Q:Exit→Act→World→Prop),
  (∀ρ' w',Inv P H0 ρ' (grow D h.next h1.next) h1 w'→Ext ρ D h w ρ' h1 w'→v.bq (grow D h.next h1.next)→Q (.panic [{v:=real ρ' v,recovered:=false}]) a w')→
  o.wpIn (FW ro) n P a w next Q
def oV(f:Nat)(args:List AV)(h:Heap)(v:AV)(h1:Heap):Prop:=
 ∀(ρ:de) (D:Dom) (w:World) (n:Nat),Inv P H0 ρ D h w→bE D args→CallsIn Fence.wide n P f (aA ρ args).toArray w fun e w'=>
  ∃ρ',e=.panicked [{v:=real ρ' v,recovered:=false}]∧Inv P H0 ρ' (grow D h.next h1.next) h1 w'∧Ext ρ D h w ρ' h1 w'∧v.bq (grow D h.next h1.next)
def sG(fv:AV)(args:List AV)(h:Heap)(v:AV)(h1:Heap):Prop:=
 ∀(ρ:de) (D:Dom) (w:World),Inv P H0 ρ D h w→fv.bq D→bE D args→∀(o:Oper) (a:Act) (ro:Option Nat) (n:Nat) (next:Act→World→Prop) (Q:Exit→Act→World→Prop),
  (∀ρ' w',Inv P H0 ρ' (grow D h.next h1.next) h1 w'→Ext ρ D h w ρ' h1 w'→v.bq (grow D h.next h1.next)→Q (.panic [{v:=real ρ' v,recovered:=false}]) a w')→
  o.uponIn (FW ro) n P a next Q ((do let d ←Deferred.ofValue (real ρ fv) (aA ρ args).toArray;invoke d.target d.args:Sem Next).run P w)
def uL(F:Fence)(n:Nat)(P:Program)(c:Code)(Q:Exit→Act→World→Prop)(a:Act)(w:World):Prop:=
 ∀(b:Frame) (k:List Item) (cs:List Frame),b.roundOf=F.round→F.fn b.fn→F.room (cs.length+1+n)→
  ∃e a' w',Q e a' w'∧ArrivesIn (Machine.fenced P F) P (lone (b.atR a (.code c::.inLoop c::k)) cs w) b k cs e a' w'
def oh(rd:Bool)(c:AC)(e:Env)(h:Heap)(x:AX)(e':Env)(h':Heap):Prop:=
 ∀(code:Code),aK P code=c→∀(N:Nat),codeOk N c=true→∀(ro:Option Nat),ro.isSome=rd→∀(ρ:de) (D:Dom) (w:World) (a:Act) (W0 n:Nat) (tl:List Deferred),
  Inv P H0 ρ D h w→cg ρ D N e a→kB tl W0 ρ D h w a.defers→W0≤w.heap.size→uL (FW ro) n P code (om P H0 (bp c) a.defers tl W0 ρ D h w N x e' h') a w
def Dh(Q:AX→Env→Heap→Prop)(nr:Bool)(ds:List Deferred)(tl:List Deferred)(W0:Nat)(ρ:de)(D:Dom)(h:Heap)(w:World)(N:Nat):Exit→Act→World→Prop:=fun ex a' w'=>
 ∃x e' h',Q x e' h'∧om P H0 nr ds tl W0 ρ D h w N x e' h' ex a' w'
def iz(rd:Bool)(c:AC)(e:Env)(h:Heap)(Q:AX→Env→Heap→Prop):Prop:=
 ∀(code:Code),aK P code=c→∀(N:Nat),codeOk N c=true→∀(ro:Option Nat),ro.isSome=rd→∀(ρ:de) (D:Dom) (w:World) (a:Act) (W0 n:Nat) (tl:List Deferred),
  Inv P H0 ρ D h w→cg ρ D N e a→kB tl W0 ρ D h w a.defers→W0≤w.heap.size→code.wpIn (FW ro) n P (Dh P H0 Q (bp c) a.defers tl W0 ρ D h w N) a w
def uO(rd:Bool)(c:AC)(e:Env)(h:Heap)(Q:AX→Env→Heap→Prop):Prop:=
 ∀(code:Code),aK P code=c→∀(N:Nat),codeOk N c=true→∀(ro:Option Nat),ro.isSome=rd→∀(ρ:de) (D:Dom) (w:World) (a:Act) (W0 n:Nat) (tl:List Deferred),
  Inv P H0 ρ D h w→cg ρ D N e a→kB tl W0 ρ D h w a.defers→W0≤w.heap.size→uL (FW ro) n P code (Dh P H0 Q (bp c) a.defers tl W0 ρ D h w N) a w
def Sound:Task→j8→Prop
 |.code rd c e h,.code x e' h'=>bW P H0 rd c e h x e' h'∧∀c',c=.loop c'→oh P H0 rd c' e h x e' h'
 |.any rd c e h,.post Q=>iz P H0 rd c e h Q∧∀c',c=.loop c'→uO P H0 rd c' e h Q
 |.ops _ l e h,.ops tr e' h'=>OT P H0 l e h tr e' h'
 |.op _ op vals h,.val v h1=>xJ P H0 op vals h v h1
 |.dw fv args h,.val v h1=>uM P H0 fv args h v h1
 |.op _ op vals h,.kP v h1=>op≠.bad∧oJ P H0 op vals h v h1
 |.dw fv args h,.kP v h1=>sG P H0 fv args h v h1
 |.call f args h,.kP v h1=>oV P H0 f args h v h1∧∀(args:Array Value) (w:World),(callFunc f args).run P w=.ok (.enter f args) w
 |.call f args h,.val v h1=>iy P H0 f args h v h1∧∀(args:Array Value) (w:World),(callFunc f args).run P w=.ok (.enter f args) w
 |_,_=>True
end
section
variable {P:Program} {H0 W0:Nat} {ρ ρ':de} {D D':Dom} {h h' h1:Heap} {w w':World} {N n:Nat} {env e e':Env} {a:Act} {ro:Option Nat}
theorem kB.ext{tl ds:List Deferred}(m:kB tl W0 ρ D h w ds)(hlt:∀b,D b→b<h.next)(x:Ext ρ D h w ρ' h' w'):kB tl W0 ρ' (grow D h.next h'.next) h' w' ds:=by
 obtain⟨rs,h1,h2,h3⟩:=m;refine⟨rs,h1,h2,fun r hr=>?_⟩;obtain⟨g1,g2,g3⟩:=h3 r hr;have hlr:r<w.heap.size:=(Array.getElem?_eq_some_iff.1 g2).1;have jN:∀b,D b→h.wr b=true→(ρ b).cj≠r:=fun b hd hw=>g3 b hd (Heap.fG hw);refine⟨g1,by rw[x.frame r hlr jN];exact g2,?_⟩;rintro b (hb|⟨ox,iH⟩) hn
 ·rw[x.bS b hb];exact g3 b hb (x.old b (hlt b hb) hn).1
 ·rcases x.fresh b ox iH with hf|⟨b0,hd,hw,heq⟩
  ·omega
  ·rw[←heq];exact jN b0 hd hw
theorem cg.mono(he:cg ρ D N e a)(iC:∀b,D b→ρ' b=ρ b)(hD:∀b,D b→D' b):cg ρ' D' N e a where
 size:=he.size
 get:=fun i=>by rw[cR iC _ (he.dom i)];exact he.get i
 dom:=fun i=>dB hD _ (he.dom i)
theorem fA(e:Env)(d:Option Nat)(v:AV)(t:Nat):(e.put d v).get t=if d=some t then v else e.get t:=by
 cases d with
 |none=>simp[Env.put]
 |some d=>
  simp only[Env.put,Env.get,Tr.bP,Option.some.injEq];by_cases h:t=d
  ·subst h;simp
  ·rw[if_neg h,if_neg (fun e=>h e.symm)]
theorem cg.put{d:Option Nat}{v:AV}(he:cg ρ D N e a)(hd:yE N d=true)(hv:v.bq D):cg ρ D N (e.put d v) (a.put d (real ρ v)):=by
 cases d with
 |none=>exact he
 |some d=>
  have hlt:d<N:=Nat.le_of_ble_eq_true (show Nat.ble (d+1) N=true from hd);refine⟨by simp[Act.put,he.size],fun i=>?_,fun i=>?_⟩
  ·rw[fA];simp only[Act.put,Option.some.injEq];by_cases h:d=i
   ·subst h;simp[Array.getD_eq_getD_getElem?,he.size,hlt]
   ·rw[if_neg h,←he.get i];simp[Array.getD_eq_getD_getElem?,Array.getElem?_setIfInBounds_ne h]
  ·rw[fA];split
   ·exact hv
   ·exact he.dom i
theorem gM(ρ:de):real ρ .undef=Go.undef:=by simp[AV.undef,real,aA,Go.undef]
theorem dA{ops:Array Oper}{o:Oper}{i:bK}(h:bY P ops o=i):i.dst=o.dst∧
  (i.op≠.bad∨i.guard.isSome=true→aH P o.op=some (i.op,i.args)∧(match o.guard with
   |none=>i.guard=none
   |some (j,want)=>∃d,(ops[j]?).bind (·.dst)=some d∧i.guard=some (d,want))):=by
 unfold bY at h;simp only at h;split at h
 ·rename_i g op as hg hc;subst h;refine⟨rfl,fun _=>⟨hc,?_⟩⟩;cases ho:o.guard with
  |none=>simp[ho] at hg;simp[hg]
  |some jw=>
   obtain⟨j,want⟩:=jw;simp only[ho] at hg;split at hg
   ·rename_i d hd;simp only[Option.some.injEq] at hg;exact⟨d,hd,hg.symm⟩
   ·simp at hg
 ·subst h;exact⟨rfl,fun hh=>by simp at hh⟩
theorem eW{ops:Array Oper}{o:Oper}{i:bK}(hc:bY P ops o=i)(hi:i.op≠.bad∨i.guard.isSome=true)(he:cg ρ D N e a):
  Region.wanted o (yielded ops a.tmps)=cz i e:=by
 have hinv:=((dA hc).2 hi).2;unfold Region.wanted cz;cases ho:o.guard with
 |none=>
  rw[ho] at hinv;rw[hinv]
 |some jw=>
  obtain⟨j,want⟩:=jw;rw[ho] at hinv;obtain⟨d,hd,hg⟩:=hinv;rw[hg];simp only[yielded,hd,Option.bind_some];have cS:=he.get d;rw[Array.getD_eq_getD_getElem?] at cS;cases hx:e.get d<;>rw[hx] at cS<;>simp only[real] at cS<;>cases ht:a.tmps[d]?<;>simp[ht,Go.undef] at cS<;>first|(subst cS;simp)|skip
  all_goals (try rfl)
  all_goals simp_all
theorem zJ{o:Oper}{op:gP}{rs:List bV}(hc:aH P o.op=some (op,rs))(No:Operand→Value):Oper.semAt ro No o=execOp No o:=by
 refine Oper.semAt_eq ro No o ?_;intro c hd;rw[hd] at hc;simp[aH] at hc
theorem iF{o:Oper}{op:gP}{rs:List bV}{next:Act→World→Prop}{Q:Exit→Act→World→Prop}(hc:aH P o.op=some (op,rs))
  (h:o.uponIn (FW ro) n P a next Q ((execOp a.eval o).run P w)):o.wpIn (FW ro) n P a w next Q:=by
 refine⟨fun _ _=>trivial,?_⟩;show o.uponIn (FW ro) n P a next Q ((Oper.semAt ro a.eval o).run P w)
 rw[zJ hc];exact h
theorem xJ.sem{op:gP}{vals:List AV}{v:AV}{h0:Heap}(h:xJ P H0 op vals h0 v h1):QF P H0 op vals h0 v h1:=by
 cases op with
 |p o=>
  obtain⟨hp,rfl⟩:=h;intro o' rs hc ρ D w a N env ro n hi he hv next Q hk
  subst hv;have:=zm (w:=w) he hc hp;refine iF hc ?_;rw[this.1];exact hk ρ w (by rw[bF];exact hi) (Ext.refl _ _ _ _) (by rw[bF];exact this.2)
 |a o=>
  obtain⟨x,f,hp,rfl,rfl⟩:=h;intro o' rs hc ρ D w a N env ro n hi he hv next Q hk
  subst hv;obtain⟨obj,hrun,Cu,hf⟩:=Di (H0:=H0) (w:=w) he hc hp;refine iF hc ?_;have hst:=sq (w':=w.alloc obj) hi x 0 obj rfl rfl rfl rfl (Cu _ _ (fun _=>.inl) (fun b hb=>lJ _ _ (by have:=hi.lt b hb;omega)) hi.low);rw[hrun h0.next (mL ρ h0.next ⟨w.heap.size,0,0⟩) (cw _ _ _)];exact hk _ _ hst.1 hst.2 (hf _ _ (.inr ⟨Nat.le_refl _,by simp⟩))
 |r o=>
  obtain⟨hp,rfl⟩:=h;intro o' rs hc ρ D w a N env ro n hi he hv next Q hk
  subst hv;have:=EC he hi hc hp;refine iF hc ?_;rw[this.1];exact hk ρ w (by rw[bF];exact hi) (Ext.refl _ _ _ _) (by rw[bF];exact this.2)
 |bad=>exact absurd h (by simp[xJ])
 |e o=>exact h
 |call=>exact h
 |invoke s=>exact h
 |panic=>exact h
theorem PV{o:Al}{vals:List AV}{v:AV}(hv:eI o vals h=some (v,h1)):xJ P H0 (.e o) vals h v h1:=by
 intro o' rs hc ρ D w a N env ro n hi he pq next Q hk
 subst pq;obtain⟨ρ',w',hrun,hinv,oM,hd⟩:=KN he hi hc hv;refine iF hc ?_;rcases hrun with hrun|⟨hrun,rfl⟩
 ·rw[hrun];exact hk ρ' w' hinv oM hd
 ·rw[hrun];have:=hk ρ' w' hinv oM hd;rw[gM] at this;exact this
theorem PW{o:Al}{vals:List AV}{v:AV}(hv:eK o vals h=some (v,h1)):xJ P H0 (.e o) vals h v h1:=by
 intro o' rs hc ρ D w a N env ro n hi he pq next Q hk
 subst pq;obtain⟨ρ',w',hrun,hinv,oM,hd⟩:=KO he hi hc hv;refine iF hc ?_;rcases hrun with hrun|⟨hrun,rfl⟩
 ·rw[hrun];exact hk ρ' w' hinv oM hd
 ·rw[hrun];have:=hk ρ' w' hinv oM hd;rw[gM] at this;exact this
theorem td{os2:List Oper}{Q:Exit→Act→World→Prop}:∀{l:List bK} {e:Env} {h:Heap} {tr:List aQ} {e':Env} {h':Heap},OT P H0 l e h tr e' h'→
  ∀{ops:Array Oper} {os:List Oper},os.map (bY P ops)=l→dQ N l=true→∀{ρ:de} {D:Dom} {w:World} {a:Act},Inv P H0 ρ D h w→cg ρ D N e a→
  (∀ρ' w' a',Inv P H0 ρ' (grow D h.next h'.next) h' w'→Ext ρ D h w ρ' h' w'→cg ρ' (grow D h.next h'.next) N e' a'→a'.defers=a.defers→wpListIn (FW ro) n P ops Q os2 a' w')→
  wpListIn (FW ro) n P ops Q (os++os2) a w
 |[],e,h,tr,e',h',mD,ops,os,hos,hok,ρ,D,w,a,hi,he,hk=>by
  cases tr with
  |cons m tr=>simp[OT] at mD
  |nil=>
   simp only[OT] at mD;obtain⟨rfl,rfl⟩:=mD;have:os=[]:=by simpa using hos
   subst this;exact hk ρ w a (by rw[bF];exact hi) (Ext.refl _ _ _ _) (by rw[bF];exact he) rfl
 |i::l,e,h,tr,e',h',mD,ops,os,hos,hok,ρ,D,w,a,hi,he,hk=>by
  cases tr with
  |nil=>simp[OT] at mD
  |cons m tr=>
   cases os with
   |nil=>simp at hos
   |cons o os=>
    simp only[List.map_cons,List.cons.injEq] at hos;simp only[dQ,Bool.and_eq_true] at hok;simp only[OT] at mD;obtain⟨D8,Bz,mD⟩:=mD;have nJ:=(dA hos.1).1;rcases mD with⟨dZ,hw,hv,mS⟩|⟨dZ,hw,h1,hop,mS⟩
    ·
     have hg:i.guard.isSome=true:=by
      cases hg:i.guard with
      |none=>simp[cz,hg] at hw
      |some _=>rfl
     have jN:=eW hos.1 (.inr hg) he;rw[List.cons_append];unfold wpListIn;rw[if_neg (by rw[jN,hw];simp)];refine⟨fun _ _=>trivial,?_⟩;rw[←gM ρ,←nJ];exact td mS hos.2 hok.2 hi (he.put hok.1 (by simp[AV.undef,AV.bq,bE])) (fun ρ' w' a' g1 g2 g3 g4=>hk ρ' w' a' g1 g2 g3 (g4.trans (by cases i.dst<;>rfl)))
    ·have hnb:i.op≠.bad:=by
      intro hb;rw[hb] at hop;exact hop
     have jN:=eW hos.1 (.inl hnb) he;have hc:=((dA hos.1).2 (.inl hnb)).1;rw[List.cons_append];unfold wpListIn;rw[if_pos (by rw[jN,hw])];refine hop.sem o i.args hc ρ D w a N e ro n hi he Bz.symm _ _ ?_;intro ρ' w' g1 g2 g3;rw[←nJ];have he':cg ρ' (grow D h.next h1.next) N (e.put i.dst m.v) (a.put i.dst (real ρ' m.v)):=(he.mono g2.bS (fun _=>.inl)).put hok.1 g3;refine td mS hos.2 hok.2 g1 he' ?_;intro E8 w'' UM k1 k2 k3 k4;have J2:=g2.next;have hn2:=k2.next;rw[eD D J2 hn2] at k1 k3;exact hk E8 w'' UM k1 (Ext.trans hi.lt g2 k2) k3 (k4.trans (by cases i.dst<;>rfl))
theorem qp{Q:Exit→Act→World→Prop}{l:List bK}{e:Env}{h:Heap}{tr:List aQ}{e':Env}{h':Heap}(mD:OT P H0 l e h tr e' h')
  {ops:Array Oper}{os:List Oper}(hos:os.map (bY P ops)=l)(hok:dQ N l=true){ρ:de}{D:Dom}{w:World}{a:Act}(hi:Inv P H0 ρ D h w)(he:cg ρ D N e a)
  (hk:∀ρ' w' a',Inv P H0 ρ' (grow D h.next h'.next) h' w'→Ext ρ D h w ρ' h' w'→cg ρ' (grow D h.next h'.next) N e' a'→a'.defers=a.defers→Q .normal a' w'):
  wpListIn (FW ro) n P ops Q os a w:=by
 have:=td (os2:=[]) (ro:=ro) (n:=n) (Q:=Q) mD hos hok hi he hk
 rwa [List.append_nil] at this
theorem lS{v:AV}{h2:Heap}{i0:bK}{l2:List bK}{Q:Exit→Act→World→Prop}:∀{l:List bK} {e:Env} {h:Heap} {tr:List aQ} {e':Env} {h':Heap},OT P H0 l e h tr e' h'→
  cz i0 e'=true→i0.op≠.bad→oJ P H0 i0.op (i0.args.map e'.ev) h' v h2→
  ∀{ops:Array Oper} {os:List Oper},os.map (bY P ops)=l++i0::l2→dQ N l=true→∀{ρ:de} {D:Dom} {w:World} {a:Act},Inv P H0 ρ D h w→cg ρ D N e a→
  (∀ρ' w' a',Inv P H0 ρ' (grow D h.next h2.next) h2 w'→Ext ρ D h w ρ' h2 w'→cg ρ' (grow D h.next h2.next) N e' a'→a'.defers=a.defers→v.bq (grow D h.next h2.next)→Q (.panic [{v:=real ρ' v,recovered:=false}]) a' w')→
  wpListIn (FW ro) n P ops Q os a w
 |[],e,h,tr,e',h',mD,hw0,hb0,Pe,ops,os,hos,hok,ρ,D,w,a,hi,he,hk=>by
  cases tr with
  |cons m tr=>simp[OT] at mD
  |nil=>
   simp only[OT] at mD;obtain⟨rfl,rfl⟩:=mD;cases os with
   |nil=>simp at hos
   |cons o os=>
    simp only[List.map_cons,List.nil_append,List.cons.injEq] at hos;have jN:=eW hos.1 (.inl hb0) he;have hc:=((dA hos.1).2 (.inl hb0)).1;unfold wpListIn;rw[if_pos (by rw[jN,hw0])];refine Pe o i0.args hc ρ D w a N e' ro n hi he rfl _ _ ?_;intro ρ' w' g1 g2 g3;exact hk ρ' w' a g1 g2 (he.mono g2.bS (fun _=>.inl)) rfl g3
 |i::l,e,h,tr,e',h',mD,hw0,hb0,Pe,ops,os,hos,hok,ρ,D,w,a,hi,he,hk=>by
  cases tr with
  |nil=>simp[OT] at mD
  |cons m tr=>
   cases os with
   |nil=>simp at hos
   |cons o os=>
    simp only[List.map_cons,List.cons_append,List.cons.injEq] at hos;simp only[dQ,Bool.and_eq_true] at hok;simp only[OT] at mD;obtain⟨D8,Bz,mD⟩:=mD;have nJ:=(dA hos.1).1;rcases mD with⟨dZ,hw,hv,mS⟩|⟨dZ,hw,h1,hop,mS⟩
    ·have hg:i.guard.isSome=true:=by
      cases hg:i.guard with
      |none=>simp[cz,hg] at hw
      |some _=>rfl
     have jN:=eW hos.1 (.inr hg) he;unfold wpListIn;rw[if_neg (by rw[jN,hw];simp)];refine⟨fun _ _=>trivial,?_⟩;rw[←gM ρ,←nJ];exact lS mS hw0 hb0 Pe hos.2 hok.2 hi (he.put hok.1 (by simp[AV.undef,AV.bq,bE])) (fun ρ' w' a' g1 g2 g3 g4 g5=>hk ρ' w' a' g1 g2 g3 (g4.trans (by cases i.dst<;>rfl)) g5)
    ·have hnb:i.op≠.bad:=by
      intro hb;rw[hb] at hop;exact hop
     have jN:=eW hos.1 (.inl hnb) he;have hc:=((dA hos.1).2 (.inl hnb)).1;unfold wpListIn;rw[if_pos (by rw[jN,hw])];refine hop.sem o i.args hc ρ D w a N e ro n hi he Bz.symm _ _ ?_;intro ρ' w' g1 g2 g3;rw[←nJ];have he':cg ρ' (grow D h.next h1.next) N (e.put i.dst m.v) (a.put i.dst (real ρ' m.v)):=(he.mono g2.bS (fun _=>.inl)).put hok.1 g3;refine lS mS hw0 hb0 Pe hos.2 hok.2 g1 he' ?_;intro E8 w'' UM k1 k2 k3 k4 k5;have J2:=g2.next;have hn2:=k2.next;rw[eD D J2 hn2] at k1 k3 k5;exact hk E8 w'' UM k1 (Ext.trans hi.lt g2 k2) k3 (k4.trans (by cases i.dst<;>rfl)) k5
theorem s9{l m:List bK}:dQ N (l++m)=(dQ N l&&dQ N m):=by
 induction l with
 |nil=>rfl
 |cons i l ih=>simp only[List.cons_append,dQ,ih,Bool.and_assoc]
end
end Ads
end Go.Proofs.Ytepdklcpagielaa
