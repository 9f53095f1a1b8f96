/-
  What big steps mean in the model: operations, calls, regions in the text's order.
-/
import Derived.Test.YtnlcabhfkpafmaaGreatAdsBig
set_option linter.unusedSimpArgs false
set_option linter.unusedVariables false
namespace Go.Proofs.YtnlcabhfkpafmaaGreat
namespace Ads
def FW(ro:Option Nat):Fence:={Fence.wide with round:=ro}
def marksOf(rs:List Nat):List Deferred:=rs.map fun r=>{target:=.collected r,args:=#[]}
def jE(tl:List Deferred)(W0:Nat)(ρ:cF)(D:Dom)(h:Heap)(w:World)(ds:List Deferred):Prop:=
 ∃rs,ds=marksOf rs++tl∧rs.Nodup∧∀r∈rs,W0≤r∧w.heap[r]?=some (.deferred (some []))∧∀b,D b→h.get b≠none→(ρ b).bK≠r
section
variable (P:Program) (H0:Nat)
def O5(op:fH)(vals:List AV)(h:Heap)(v:AV)(h1:Heap):Prop:=
 ∀(o:Oper) (rs:List bH),aD P o.op=some (op,rs)→∀(ρ:cF) (D:Dom) (w:World) (a:Act) (N:Nat) (env:Env) (ro:Option Nat) (n:Nat),
  Inv P H0 ρ D h w→bJ ρ D N env a→rs.map env.ev=vals→∀(next:Act→World→Prop) (Q:Exit→Act→World→Prop),
  (∀ρ' w',Inv P H0 ρ' (grow D h.next h1.next) h1 w'→Ext ρ D h w ρ' h1 w'→v.aY (grow D h.next h1.next)→next (a.put o.dst (real ρ' v)) w')→
  o.wpIn (FW ro) n P a w next Q
def uG(op:fH)(vals:List AV)(h:Heap)(v:AV)(h1:Heap):Prop:=
 match op with
 |.p o=>pI o vals=some v∧h1=h
 |.a o=>∃x f,aI o vals=some (x,f)∧v=f h.next∧h1=h.new x
 |.r o=>rI o vals h=some v∧h1=h
 |.bad=>False
 |op=>O5 P H0 op vals h v h1
def OT:List bE→Env→Heap→List aN→Env→Heap→Prop
 |[],e,h,[],e',h'=>e'=e∧h'=h
 |i::l,e,h,m::tr,e',h'=>m.h=h∧m.vals=i.args.map e.ev∧
   ((m.on=false∧cE i e=false∧m.v=.undef∧OT l (e.put i.dst .undef) h tr e' h')∨
    (m.on=true∧cE i e=true∧∃h1,uG P H0 i.op m.vals h m.v h1∧OT l (e.put i.dst m.v) h1 tr e' h'))
 |_,_,_,_,_,_=>False
def ga(f:Nat)(args:List AV)(h:Heap)(v:AV)(h1:Heap):Prop:=
 ∀(ρ:cF) (D:Dom) (w:World) (n:Nat),Inv P H0 ρ D h w→bn D args→CallsIn Fence.wide n P f (au ρ args).toArray w fun e w'=>
  ∃ρ',e=.returned (real ρ' v)∧Inv P H0 ρ' (grow D h.next h1.next) h1 w'∧Ext ρ D h w ρ' h1 w'∧v.aY (grow D h.next h1.next)
def rU(fv:AV)(args:List AV)(h:Heap)(v:AV)(h1:Heap):Prop:=
 ∀(ρ:cF) (D:Dom) (w:World),Inv P H0 ρ D h w→fv.aY D→bn D args→∀(o:Oper) (a:Act) (ro:Option Nat) (n:Nat) (next:Act→World→Prop) (Q:Exit→Act→World→Prop),
  (∀ρ' w',Inv P H0 ρ' (grow D h.next h1.next) h1 w'→Ext ρ D h w ρ' h1 w'→v.aY (grow D h.next h1.next)→next (a.put o.dst (real ρ' v)) w')→
  o.uponIn (FW ro) n P a next Q ((do let d ←Deferred.ofValue (real ρ fv) (au ρ args).toArray;invoke d.target d.args:Sem Next).run P w)
def G5(ρ:cF)(D:Dom):AX→Exit→Prop
 |.normal,ex=>ex=.normal
 |.exit id,ex=>ex=.exit id
 |.ret,ex=>ex=.ret
 |.panic v,ex=>ex=.panic [{v:=real ρ v,recovered:=false}]∧v.aY D
def oq(nr:Bool)(ds:List Deferred)(tl:List Deferred)(W0:Nat)(ρ:cF)(D:Dom)(h:Heap)(w:World)(N:Nat)(x:AX)(e':Env)(h':Heap):Exit→Act→World→Prop:=fun ex a' w'=>
 ∃ρ',G5 ρ' (grow D h.next h'.next) x ex∧Inv P H0 ρ' (grow D h.next h'.next) h' w'∧Ext ρ D h w ρ' h' w'∧bJ ρ' (grow D h.next h'.next) N e' a'∧jE tl W0 ρ' (grow D h.next h'.next) h' w' a'.defers∧(nr=true→a'.defers=ds)
def bN(rd:Bool)(c:AC)(e:Env)(h:Heap)(x:AX)(e':Env)(h':Heap):Prop:=
 ∀(code:Code),aE P code=c→∀(N:Nat),codeOk N c=true→∀(ro:Option Nat),ro.isSome=rd→∀(ρ:cF) (D:Dom) (w:World) (a:Act) (W0 n:Nat) (tl:List Deferred),
  Inv P H0 ρ D h w→bJ ρ D N e a→jE tl W0 ρ D h w a.defers→W0≤w.heap.size→code.wpIn (FW ro) n P (oq P H0 (bD c) a.defers tl W0 ρ D h w N x e' h') a w
def mF(op:fH)(vals:List AV)(h:Heap)(v:AV)(h1:Heap):Prop:=
 ∀(o:Oper) (rs:List bH),aD P o.op=some (op,rs)→∀(ρ:cF) (D:Dom) (w:World) (a:Act) (N:Nat) (env:Env) (ro:Option Nat) (n:Nat),
  Inv P H0 ρ D h w→bJ ρ D N env a→rs.map env.ev=vals→∀(next:Act→World→Prop) (Q:Exit→Act→World→Prop),
  (∀ρ' w',Inv P H0 ρ' (grow D h.next h1.next) h1 w'→Ext ρ D h w ρ' h1 w'→v.aY (grow D h.next h1.next)→Q (.panic [{v:=real ρ' v,recovered:=false}]) a w')→
  o.wpIn (FW ro) n P a w next Q
def mQ(f:Nat)(args:List AV)(h:Heap)(v:AV)(h1:Heap):Prop:=
 ∀(ρ:cF) (D:Dom) (w:World) (n:Nat),Inv P H0 ρ D h w→bn D args→CallsIn Fence.wide n P f (au ρ args).toArray w fun e w'=>
  ∃ρ',e=.panicked [{v:=real ρ' v,recovered:=false}]∧Inv P H0 ρ' (grow D h.next h1.next) h1 w'∧Ext ρ D h w ρ' h1 w'∧v.aY (grow D h.next h1.next)
def pP(fv:AV)(args:List AV)(h:Heap)(v:AV)(h1:Heap):Prop:=
 ∀(ρ:cF) (D:Dom) (w:World),Inv P H0 ρ D h w→fv.aY D→bn D args→∀(o:Oper) (a:Act) (ro:Option Nat) (n:Nat) (next:Act→World→Prop) (Q:Exit→Act→World→Prop),
  (∀ρ' w',Inv P H0 ρ' (grow D h.next h1.next) h1 w'→Ext ρ D h w ρ' h1 w'→v.aY (grow D h.next h1.next)→Q (.panic [{v:=real ρ' v,recovered:=false}]) a w')→
  o.uponIn (FW ro) n P a next Q ((do let d ←Deferred.ofValue (real ρ fv) (au ρ args).toArray;invoke d.target d.args:Sem Next).run P w)
def rP(F:Fence)(n:Nat)(P:Program)(c:Code)(Q:Exit→Act→World→Prop)(a:Act)(w:World):Prop:=
 ∀(b:Frame) (k:List Item) (cs:List Frame),b.roundOf=F.round→F.fn b.fn→F.room (cs.length+1+n)→
  ∃e a' w',Q e a' w'∧ArrivesIn (Machine.fenced P F) P (lone (b.atR a (.code c::.inLoop c::k)) cs w) b k cs e a' w'
def pQ(rd:Bool)(c:AC)(e:Env)(h:Heap)(x:AX)(e':Env)(h':Heap):Prop:=
 ∀(code:Code),aE P code=c→∀(N:Nat),codeOk N c=true→∀(ro:Option Nat),ro.isSome=rd→∀(ρ:cF) (D:Dom) (w:World) (a:Act) (W0 n:Nat) (tl:List Deferred),
  Inv P H0 ρ D h w→bJ ρ D N e a→jE tl W0 ρ D h w a.defers→W0≤w.heap.size→rP (FW ro) n P code (oq P H0 (bD c) a.defers tl W0 ρ D h w N x e' h') a w
def Aw(Q:AX→Env→Heap→Prop)(nr:Bool)(ds:List Deferred)(tl:List Deferred)(W0:Nat)(ρ:cF)(D:Dom)(h:Heap)(w:World)(N:Nat):Exit→Act→World→Prop:=fun ex a' w'=>
 ∃x e' h',Q x e' h'∧oq P H0 nr ds tl W0 ρ D h w N x e' h' ex a' w'
def gj(rd:Bool)(c:AC)(e:Env)(h:Heap)(Q:AX→Env→Heap→Prop):Prop:=
 ∀(code:Code),aE P code=c→∀(N:Nat),codeOk N c=true→∀(ro:Option Nat),ro.isSome=rd→∀(ρ:cF) (D:Dom) (w:World) (a:Act) (W0 n:Nat) (tl:List Deferred),
  Inv P H0 ρ D h w→bJ ρ D N e a→jE tl W0 ρ D h w a.defers→W0≤w.heap.size→code.wpIn (FW ro) n P (Aw P H0 Q (bD c) a.defers tl W0 ρ D h w N) a w
def rX(rd:Bool)(c:AC)(e:Env)(h:Heap)(Q:AX→Env→Heap→Prop):Prop:=
 ∀(code:Code),aE P code=c→∀(N:Nat),codeOk N c=true→∀(ro:Option Nat),ro.isSome=rd→∀(ρ:cF) (D:Dom) (w:World) (a:Act) (W0 n:Nat) (tl:List Deferred),
  Inv P H0 ρ D h w→bJ ρ D N e a→jE tl W0 ρ D h w a.defers→W0≤w.heap.size→rP (FW ro) n P code (Aw P H0 Q (bD c) a.defers tl W0 ρ D h w N) a w
def Sound:Task→SE→Prop
 |.code rd c e h,.code x e' h'=>bN P H0 rd c e h x e' h'∧∀c',c=.loop c'→pQ P H0 rd c' e h x e' h'
 |.any rd c e h,.post Q=>gj P H0 rd c e h Q∧∀c',c=.loop c'→rX P H0 rd c' e h Q
 |.ops _ l e h,.ops tr e' h'=>OT P H0 l e h tr e' h'
 |.op _ op vals h,.val v h1=>uG P H0 op vals h v h1
 |.fD fv args h,.val v h1=>rU P H0 fv args h v h1
 |.op _ op vals h,.mC v h1=>op≠.bad∧mF P H0 op vals h v h1
 |.fD fv args h,.mC v h1=>pP P H0 fv args h v h1
 |.call f args h,.mC v h1=>mQ P H0 f args h v h1∧∀(args:Array Value) (w:World),(callFunc f args).run P w=.ok (.enter f args) w
 |.call f args h,.val v h1=>ga P H0 f args h v h1∧∀(args:Array Value) (w:World),(callFunc f args).run P w=.ok (.enter f args) w
 |_,_=>True
end
section
variable {P:Program} {H0 W0:Nat} {ρ ρ':cF} {D D':Dom} {h h' h1:Heap} {w w':World} {N n:Nat} {env e e':Env} {a:Act} {ro:Option Nat}
theorem jE.ext{tl ds:List Deferred}(m:jE tl W0 ρ D h w ds)(hlt:∀b,D b→b<h.next)(x:Ext ρ D h w ρ' h' w'):jE tl W0 ρ' (grow D h.next h'.next) h' w' ds:=by
 obtain⟨rs,h1,h2,h3⟩:=m;refine⟨rs,h1,h2,fun r hr=>?_⟩;obtain⟨g1,g2,g3⟩:=h3 r hr;have hlr:r<w.heap.size:=(Array.getElem?_eq_some_iff.1 g2).1;have iM:∀b,D b→h.wr b=true→(ρ b).bK≠r:=fun b hd hw=>g3 b hd (Heap.eT hw);refine⟨g1,by rw[x.frame r hlr iM];exact g2,?_⟩;rintro b (hb|⟨q8,kO⟩) hn
 ·rw[x.bB b hb];exact g3 b hb (x.old b (hlt b hb) hn).1
 ·rcases x.fresh b q8 kO with hf|⟨b0,hd,hw,heq⟩
  ·omega
  ·rw[←heq];exact iM b0 hd hw
theorem bJ.mono(he:bJ ρ D N e a)(gL:∀b,D b→ρ' b=ρ b)(hD:∀b,D b→D' b):bJ ρ' D' N e a where
 size:=he.size
 get:=fun i=>by rw[cu gL _ (he.dom i)];exact he.get i
 dom:=fun i=>cK hD _ (he.dom i)
theorem eD(e:Env)(d:Option Nat)(v:AV)(t:Nat):(e.put d v).get t=if d=some t then v else e.get t:=by
 cases d with
 |none=>simp[Env.put]
 |some d=>
  simp only[Env.put,Env.get,Tr.bT,Option.some.injEq];by_cases h:t=d
  ·subst h;simp
  ·rw[if_neg h,if_neg (fun e=>h e.symm)]
theorem bJ.put{d:Option Nat}{v:AV}(he:bJ ρ D N e a)(hd:vE N d=true)(hv:v.aY D):bJ ρ D N (e.put d v) (a.put d (real ρ v)):=by
 cases d with
 |none=>exact he
 |some d=>
  have hlt:d<N:=Nat.le_of_ble_eq_true (show Nat.ble (d+1) N=true from hd);refine⟨by simp[Act.put,he.size],fun i=>?_,fun i=>?_⟩
  ·rw[eD];simp only[Act.put,Option.some.injEq];by_cases h:d=i
   ·subst h;simp[Array.getD_eq_getD_getElem?,he.size,hlt]
   ·rw[if_neg h,←he.get i];simp[Array.getD_eq_getD_getElem?,Array.getElem?_setIfInBounds_ne h]
  ·rw[eD];split
   ·exact hv
   ·exact he.dom i
theorem fO(ρ:cF):real ρ .undef=Go.undef:=by simp[AV.undef,real,au,Go.undef]
theorem cI{ops:Array Oper}{o:Oper}{i:bE}(h:bG P ops o=i):i.dst=o.dst∧
  (i.op≠.bad∨i.guard.isSome=true→aD P o.op=some (i.op,i.args)∧(match o.guard with
   |none=>i.guard=none
   |some (j,want)=>∃d,(ops[j]?).bind (·.dst)=some d∧i.guard=some (d,want))):=by
 unfold bG at h;simp only at h;split at h
 ·rename_i g op as hg hc;subst h;refine⟨rfl,fun _=>⟨hc,?_⟩⟩;cases ho:o.guard with
  |none=>simp[ho] at hg;simp[hg]
  |some jw=>
   obtain⟨j,want⟩:=jw;simp only[ho] at hg;split at hg
   ·rename_i d hd;simp only[Option.some.injEq] at hg;exact⟨d,hd,hg.symm⟩
   ·simp at hg
 ·subst h;exact⟨rfl,fun hh=>by simp at hh⟩
theorem ec{ops:Array Oper}{o:Oper}{i:bE}(hc:bG P ops o=i)(hi:i.op≠.bad∨i.guard.isSome=true)(he:bJ ρ D N e a):
  Region.wanted o (yielded ops a.tmps)=cE i e:=by
 have hinv:=((cI hc).2 hi).2;unfold Region.wanted cE;cases ho:o.guard with
 |none=>
  rw[ho] at hinv;rw[hinv]
 |some jw=>
  obtain⟨j,want⟩:=jw;rw[ho] at hinv;obtain⟨d,hd,hg⟩:=hinv;rw[hg];simp only[yielded,hd,Option.bind_some];have cP:=he.get d;rw[Array.getD_eq_getD_getElem?] at cP;cases hx:e.get d<;>rw[hx] at cP<;>simp only[real] at cP<;>cases ht:a.tmps[d]?<;>simp[ht,Go.undef] at cP<;>first|(subst cP;simp)|skip
  all_goals (try rfl)
  all_goals simp_all
theorem wU{o:Oper}{op:fH}{rs:List bH}(hc:aD P o.op=some (op,rs))(KA:Operand→Value):Oper.semAt ro KA o=execOp KA o:=by
 refine Oper.semAt_eq ro KA o ?_;intro c hd;rw[hd] at hc;simp[aD] at hc
theorem gw{o:Oper}{op:fH}{rs:List bH}{next:Act→World→Prop}{Q:Exit→Act→World→Prop}(hc:aD P o.op=some (op,rs))
  (h:o.uponIn (FW ro) n P a next Q ((execOp a.eval o).run P w)):o.wpIn (FW ro) n P a w next Q:=by
 refine⟨fun _ _=>trivial,?_⟩;show o.uponIn (FW ro) n P a next Q ((Oper.semAt ro a.eval o).run P w)
 rw[wU hc];exact h
theorem uG.sem{op:fH}{vals:List AV}{v:AV}{h0:Heap}(h:uG P H0 op vals h0 v h1):O5 P H0 op vals h0 v h1:=by
 cases op with
 |p o=>
  obtain⟨hp,rfl⟩:=h;intro o' rs hc ρ D w a N env ro n hi he hv next Q hk
  subst hv;have:=wF (w:=w) he hc hp;refine gw hc ?_;rw[this.1];exact hk ρ w (by rw[bp];exact hi) (Ext.refl _ _ _ _) (by rw[bp];exact this.2)
 |a o=>
  obtain⟨x,f,hp,rfl,rfl⟩:=h;intro o' rs hc ρ D w a N env ro n hi he hv next Q hk
  subst hv;obtain⟨obj,hrun,zE,hf⟩:=Az (H0:=H0) (w:=w) he hc hp;refine gw hc ?_;have hst:=pH (w':=w.alloc obj) hi x 0 obj rfl rfl rfl rfl (zE _ _ (fun _=>.inl) (fun b hb=>jR _ _ (by have:=hi.lt b hb;omega)) hi.low);rw[hrun h0.next (iz ρ h0.next ⟨w.heap.size,0,0⟩) (bP _ _ _)];exact hk _ _ hst.1 hst.2 (hf _ _ (.inr ⟨Nat.le_refl _,by simp⟩))
 |r o=>
  obtain⟨hp,rfl⟩:=h;intro o' rs hc ρ D w a N env ro n hi he hv next Q hk
  subst hv;have:=BT he hi hc hp;refine gw hc ?_;rw[this.1];exact hk ρ w (by rw[bp];exact hi) (Ext.refl _ _ _ _) (by rw[bp];exact this.2)
 |bad=>exact absurd h (by simp[uG])
 |e o=>exact h
 |call=>exact h
 |invoke s=>exact h
 |panic=>exact h
theorem NQ{o:Cp}{vals:List AV}{v:AV}(hv:eI o vals h=some (v,h1)):uG P H0 (.e o) vals h v h1:=by
 intro o' rs hc ρ D w a N env ro n hi he m7 next Q hk
 subst m7;obtain⟨ρ',w',hrun,hinv,mH,hd⟩:=HP he hi hc hv;refine gw hc ?_;rcases hrun with hrun|⟨hrun,rfl⟩
 ·rw[hrun];exact hk ρ' w' hinv mH hd
 ·rw[hrun];have:=hk ρ' w' hinv mH hd;rw[fO] at this;exact this
theorem NR{o:Cp}{vals:List AV}{v:AV}(hv:eK o vals h=some (v,h1)):uG P H0 (.e o) vals h v h1:=by
 intro o' rs hc ρ D w a N env ro n hi he m7 next Q hk
 subst m7;obtain⟨ρ',w',hrun,hinv,mH,hd⟩:=HQ he hi hc hv;refine gw hc ?_;rcases hrun with hrun|⟨hrun,rfl⟩
 ·rw[hrun];exact hk ρ' w' hinv mH hd
 ·rw[hrun];have:=hk ρ' w' hinv mH hd;rw[fO] at this;exact this
theorem qh{ZF:List Oper}{Q:Exit→Act→World→Prop}:∀{l:List bE} {e:Env} {h:Heap} {tr:List aN} {e':Env} {h':Heap},OT P H0 l e h tr e' h'→
  ∀{ops:Array Oper} {os:List Oper},os.map (bG P ops)=l→cV N l=true→∀{ρ:cF} {D:Dom} {w:World} {a:Act},Inv P H0 ρ D h w→bJ ρ D N e a→
  (∀ρ' w' a',Inv P H0 ρ' (grow D h.next h'.next) h' w'→Ext ρ D h w ρ' h' w'→bJ ρ' (grow D h.next h'.next) N e' a'→a'.defers=a.defers→wpListIn (FW ro) n P ops Q ZF a' w')→
  wpListIn (FW ro) n P ops Q (os++ZF) a w
 |[],e,h,tr,e',h',kB,ops,os,hos,hok,ρ,D,w,a,hi,he,hk=>by
  cases tr with
  |cons m tr=>simp[OT] at kB
  |nil=>
   simp only[OT] at kB;obtain⟨rfl,rfl⟩:=kB;have:os=[]:=by simpa using hos
   subst this;exact hk ρ w a (by rw[bp];exact hi) (Ext.refl _ _ _ _) (by rw[bp];exact he) rfl
 |i::l,e,h,tr,e',h',kB,ops,os,hos,hok,ρ,D,w,a,hi,he,hk=>by
  cases tr with
  |nil=>simp[OT] at kB
  |cons m tr=>
   cases os with
   |nil=>simp at hos
   |cons o os=>
    simp only[List.map_cons,List.cons.injEq] at hos;simp only[cV,Bool.and_eq_true] at hok;simp only[OT] at kB;obtain⟨Bn,yB,kB⟩:=kB;have lO:=(cI hos.1).1;rcases kB with⟨eM,hw,hv,kP⟩|⟨eM,hw,h1,hop,kP⟩
    ·
     have hg:i.guard.isSome=true:=by
      cases hg:i.guard with
      |none=>simp[cE,hg] at hw
      |some _=>rfl
     have iM:=ec hos.1 (.inr hg) he;rw[List.cons_append];unfold wpListIn;rw[if_neg (by rw[iM,hw];simp)];refine⟨fun _ _=>trivial,?_⟩;rw[←fO ρ,←lO];exact qh kP hos.2 hok.2 hi (he.put hok.1 (by simp[AV.undef,AV.aY,bn])) (fun ρ' w' a' g1 g2 g3 g4=>hk ρ' w' a' g1 g2 g3 (g4.trans (by cases i.dst<;>rfl)))
    ·have hnb:i.op≠.bad:=by
      intro hb;rw[hb] at hop;exact hop
     have iM:=ec hos.1 (.inl hnb) he;have hc:=((cI hos.1).2 (.inl hnb)).1;rw[List.cons_append];unfold wpListIn;rw[if_pos (by rw[iM,hw])];refine hop.sem o i.args hc ρ D w a N e ro n hi he yB.symm _ _ ?_;intro ρ' w' g1 g2 g3;rw[←lO];have he':bJ ρ' (grow D h.next h1.next) N (e.put i.dst m.v) (a.put i.dst (real ρ' m.v)):=(he.mono g2.bB (fun _=>.inl)).put hok.1 g3;refine qh kP hos.2 hok.2 g1 he' ?_;intro Cg w'' Tl k1 k2 k3 k4;have KK:=g2.next;have hn2:=k2.next;rw[dG D KK hn2] at k1 k3;exact hk Cg w'' Tl k1 (Ext.trans hi.lt g2 k2) k3 (k4.trans (by cases i.dst<;>rfl))
theorem nV{Q:Exit→Act→World→Prop}{l:List bE}{e:Env}{h:Heap}{tr:List aN}{e':Env}{h':Heap}(kB:OT P H0 l e h tr e' h')
  {ops:Array Oper}{os:List Oper}(hos:os.map (bG P ops)=l)(hok:cV N l=true){ρ:cF}{D:Dom}{w:World}{a:Act}(hi:Inv P H0 ρ D h w)(he:bJ ρ D N e a)
  (hk:∀ρ' w' a',Inv P H0 ρ' (grow D h.next h'.next) h' w'→Ext ρ D h w ρ' h' w'→bJ ρ' (grow D h.next h'.next) N e' a'→a'.defers=a.defers→Q .normal a' w'):
  wpListIn (FW ro) n P ops Q os a w:=by
 have:=qh (ZF:=[]) (ro:=ro) (n:=n) (Q:=Q) kB hos hok hi he hk
 rwa [List.append_nil] at this
theorem jU{v:AV}{h2:Heap}{i0:bE}{l2:List bE}{Q:Exit→Act→World→Prop}:∀{l:List bE} {e:Env} {h:Heap} {tr:List aN} {e':Env} {h':Heap},OT P H0 l e h tr e' h'→
  cE i0 e'=true→i0.op≠.bad→mF P H0 i0.op (i0.args.map e'.ev) h' v h2→
  ∀{ops:Array Oper} {os:List Oper},os.map (bG P ops)=l++i0::l2→cV N l=true→∀{ρ:cF} {D:Dom} {w:World} {a:Act},Inv P H0 ρ D h w→bJ ρ D N e a→
  (∀ρ' w' a',Inv P H0 ρ' (grow D h.next h2.next) h2 w'→Ext ρ D h w ρ' h2 w'→bJ ρ' (grow D h.next h2.next) N e' a'→a'.defers=a.defers→v.aY (grow D h.next h2.next)→Q (.panic [{v:=real ρ' v,recovered:=false}]) a' w')→
  wpListIn (FW ro) n P ops Q os a w
 |[],e,h,tr,e',h',kB,hw0,hb0,Ni,ops,os,hos,hok,ρ,D,w,a,hi,he,hk=>by
  cases tr with
  |cons m tr=>simp[OT] at kB
  |nil=>
   simp only[OT] at kB;obtain⟨rfl,rfl⟩:=kB;cases os with
   |nil=>simp at hos
   |cons o os=>
    simp only[List.map_cons,List.nil_append,List.cons.injEq] at hos;have iM:=ec hos.1 (.inl hb0) he;have hc:=((cI hos.1).2 (.inl hb0)).1;unfold wpListIn;rw[if_pos (by rw[iM,hw0])];refine Ni o i0.args hc ρ D w a N e' ro n hi he rfl _ _ ?_;intro ρ' w' g1 g2 g3;exact hk ρ' w' a g1 g2 (he.mono g2.bB (fun _=>.inl)) rfl g3
 |i::l,e,h,tr,e',h',kB,hw0,hb0,Ni,ops,os,hos,hok,ρ,D,w,a,hi,he,hk=>by
  cases tr with
  |nil=>simp[OT] at kB
  |cons m tr=>
   cases os with
   |nil=>simp at hos
   |cons o os=>
    simp only[List.map_cons,List.cons_append,List.cons.injEq] at hos;simp only[cV,Bool.and_eq_true] at hok;simp only[OT] at kB;obtain⟨Bn,yB,kB⟩:=kB;have lO:=(cI hos.1).1;rcases kB with⟨eM,hw,hv,kP⟩|⟨eM,hw,h1,hop,kP⟩
    ·have hg:i.guard.isSome=true:=by
      cases hg:i.guard with
      |none=>simp[cE,hg] at hw
      |some _=>rfl
     have iM:=ec hos.1 (.inr hg) he;unfold wpListIn;rw[if_neg (by rw[iM,hw];simp)];refine⟨fun _ _=>trivial,?_⟩;rw[←fO ρ,←lO];exact jU kP hw0 hb0 Ni hos.2 hok.2 hi (he.put hok.1 (by simp[AV.undef,AV.aY,bn])) (fun ρ' w' a' g1 g2 g3 g4 g5=>hk ρ' w' a' g1 g2 g3 (g4.trans (by cases i.dst<;>rfl)) g5)
    ·have hnb:i.op≠.bad:=by
      intro hb;rw[hb] at hop;exact hop
     have iM:=ec hos.1 (.inl hnb) he;have hc:=((cI hos.1).2 (.inl hnb)).1;unfold wpListIn;rw[if_pos (by rw[iM,hw])];refine hop.sem o i.args hc ρ D w a N e ro n hi he yB.symm _ _ ?_;intro ρ' w' g1 g2 g3;rw[←lO];have he':bJ ρ' (grow D h.next h1.next) N (e.put i.dst m.v) (a.put i.dst (real ρ' m.v)):=(he.mono g2.bB (fun _=>.inl)).put hok.1 g3;refine jU kP hw0 hb0 Ni hos.2 hok.2 g1 he' ?_;intro Cg w'' Tl k1 k2 k3 k4 k5;have KK:=g2.next;have hn2:=k2.next;rw[dG D KK hn2] at k1 k3 k5;exact hk Cg w'' Tl k1 (Ext.trans hi.lt g2 k2) k3 (k4.trans (by cases i.dst<;>rfl)) k5
theorem qe{l m:List bE}:cV N (l++m)=(cV N l&&cV N m):=by
 induction l with
 |nil=>rfl
 |cons i l ih=>simp only[List.cons_append,cV,ih,Bool.and_assoc]
end
end Ads
end Go.Proofs.YtnlcabhfkpafmaaGreat
