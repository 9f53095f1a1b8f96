/-
  What big steps mean in the model: operations, calls, regions in the text's order.
-/
import Derived.Test.YtmnolnoeibhjgaaGreatAdsBig
set_option linter.unusedSimpArgs false
set_option linter.unusedVariables false
namespace Go.Proofs.YtmnolnoeibhjgaaGreat
namespace Ads
def FW(ro:Option Nat):Fence:={Fence.wide with round:=ro}
def marksOf(rs:List Nat):List Deferred:=rs.map fun r=>{target:=.collected r,args:=#[]}
def jc(tl:List Deferred)(W0:Nat)(ρ:cG)(D:Dom)(h:Heap)(w:World)(ds:List Deferred):Prop:=
 ∃rs,ds=marksOf rs++tl∧rs.Nodup∧∀r∈rs,W0≤r∧w.heap[r]?=some (.deferred (some []))∧∀b,D b→h.get b≠none→(ρ b).bH≠r
section
variable (P:Program) (H0:Nat)
def KP(op:fG)(vals:List AV)(h:Heap)(v:AV)(h1:Heap):Prop:=
 ∀(o:Oper) (rs:List bx),aD P o.op=some (op,rs)→∀(ρ:cG) (D:Dom) (w:World) (a:Act) (N:Nat) (env:Env) (ro:Option Nat) (n:Nat),
  Inv P H0 ρ D h w→bG ρ D N env a→rs.map env.ev=vals→∀(next:Act→World→Prop) (Q:Exit→Act→World→Prop),
  (∀ρ' w',Inv P H0 ρ' (grow D h.next h1.next) h1 w'→Ext ρ D h w ρ' h1 w'→v.aW (grow D h.next h1.next)→next (a.put o.dst (real ρ' v)) w')→
  o.wpIn (FW ro) n P a w next Q
def ux(op:fG)(vals:List AV)(h:Heap)(v:AV)(h1:Heap):Prop:=
 match op with
 |.p o=>pI o vals=some v∧h1=h
 |.a o=>∃x f,aI o vals=some (x,f)∧v=f h.next∧h1=h.new x
 |.r o=>rI o vals h=some v∧h1=h
 |.bad=>False
 |op=>KP P H0 op vals h v h1
def OT:List bp→Env→Heap→List aK→Env→Heap→Prop
 |[],e,h,[],e',h'=>e'=e∧h'=h
 |i::l,e,h,m::tr,e',h'=>m.h=h∧m.vals=i.args.map e.ev∧
   ((m.on=false∧bO i e=false∧m.v=.undef∧OT l (e.put i.dst .undef) h tr e' h')∨
    (m.on=true∧bO i e=true∧∃h1,ux P H0 i.op m.vals h m.v h1∧OT l (e.put i.dst m.v) h1 tr e' h'))
 |_,_,_,_,_,_=>False
def fR(f:Nat)(args:List AV)(h:Heap)(v:AV)(h1:Heap):Prop:=
 ∀(ρ:cG) (D:Dom) (w:World) (n:Nat),Inv P H0 ρ D h w→bl D args→CallsIn Fence.wide n P f (aq ρ args).toArray w fun e w'=>
  ∃ρ',e=.returned (real ρ' v)∧Inv P H0 ρ' (grow D h.next h1.next) h1 w'∧Ext ρ D h w ρ' h1 w'∧v.aW (grow D h.next h1.next)
def rM(fv:AV)(args:List AV)(h:Heap)(v:AV)(h1:Heap):Prop:=
 ∀(ρ:cG) (D:Dom) (w:World),Inv P H0 ρ D h w→fv.aW D→bl D args→∀(o:Oper) (a:Act) (ro:Option Nat) (n:Nat) (next:Act→World→Prop) (Q:Exit→Act→World→Prop),
  (∀ρ' w',Inv P H0 ρ' (grow D h.next h1.next) h1 w'→Ext ρ D h w ρ' h1 w'→v.aW (grow D h.next h1.next)→next (a.put o.dst (real ρ' v)) w')→
  o.uponIn (FW ro) n P a next Q ((do let d ←Deferred.ofValue (real ρ fv) (aq ρ args).toArray;invoke d.target d.args:Sem Next).run P w)
def FP(ρ:cG)(D:Dom):AX→Exit→Prop
 |.normal,ex=>ex=.normal
 |.exit id,ex=>ex=.exit id
 |.ret,ex=>ex=.ret
 |.panic v,ex=>ex=.panic [{v:=real ρ v,recovered:=false}]∧v.aW D
def lX(nr:Bool)(ds:List Deferred)(tl:List Deferred)(W0:Nat)(ρ:cG)(D:Dom)(h:Heap)(w:World)(N:Nat)(x:AX)(e':Env)(h':Heap):Exit→Act→World→Prop:=fun ex a' w'=>
 ∃ρ',FP ρ' (grow D h.next h'.next) x ex∧Inv P H0 ρ' (grow D h.next h'.next) h' w'∧Ext ρ D h w ρ' h' w'∧bG ρ' (grow D h.next h'.next) N e' a'∧jc tl W0 ρ' (grow D h.next h'.next) h' w' a'.defers∧(nr=true→a'.defers=ds)
def bD(rd:Bool)(c:AC)(e:Env)(h:Heap)(x:AX)(e':Env)(h':Heap):Prop:=
 ∀(code:Code),aE P code=c→∀(N:Nat),codeOk N c=true→∀(ro:Option Nat),ro.isSome=rd→∀(ρ:cG) (D:Dom) (w:World) (a:Act) (W0 n:Nat) (tl:List Deferred),
  Inv P H0 ρ D h w→bG ρ D N e a→jc tl W0 ρ D h w a.defers→W0≤w.heap.size→code.wpIn (FW ro) n P (lX P H0 (aU c) a.defers tl W0 ρ D h w N x e' h') a w
def mo(op:fG)(vals:List AV)(h:Heap)(v:AV)(h1:Heap):Prop:=
 ∀(o:Oper) (rs:List bx),aD P o.op=some (op,rs)→∀(ρ:cG) (D:Dom) (w:World) (a:Act) (N:Nat) (env:Env) (ro:Option Nat) (n:Nat),
  Inv P H0 ρ D h w→bG ρ D N env a→rs.map env.ev=vals→∀(next:Act→World→Prop) (Q:Exit→Act→World→Prop),
  (∀ρ' w',Inv P H0 ρ' (grow D h.next h1.next) h1 w'→Ext ρ D h w ρ' h1 w'→v.aW (grow D h.next h1.next)→Q (.panic [{v:=real ρ' v,recovered:=false}]) a w')→
  o.wpIn (FW ro) n P a w next Q
def mG(f:Nat)(args:List AV)(h:Heap)(v:AV)(h1:Heap):Prop:=
 ∀(ρ:cG) (D:Dom) (w:World) (n:Nat),Inv P H0 ρ D h w→bl D args→CallsIn Fence.wide n P f (aq ρ args).toArray w fun e w'=>
  ∃ρ',e=.panicked [{v:=real ρ' v,recovered:=false}]∧Inv P H0 ρ' (grow D h.next h1.next) h1 w'∧Ext ρ D h w ρ' h1 w'∧v.aW (grow D h.next h1.next)
def pP(fv:AV)(args:List AV)(h:Heap)(v:AV)(h1:Heap):Prop:=
 ∀(ρ:cG) (D:Dom) (w:World),Inv P H0 ρ D h w→fv.aW D→bl D args→∀(o:Oper) (a:Act) (ro:Option Nat) (n:Nat) (next:Act→World→Prop) (Q:Exit→Act→World→Prop),
  (∀ρ' w',Inv P H0 ρ' (grow D h.next h1.next) h1 w'→Ext ρ D h w ρ' h1 w'→v.aW (grow D h.next h1.next)→Q (.panic [{v:=real ρ' v,recovered:=false}]) a w')→
  o.uponIn (FW ro) n P a next Q ((do let d ←Deferred.ofValue (real ρ fv) (aq ρ args).toArray;invoke d.target d.args:Sem Next).run P w)
def rJ(F:Fence)(n:Nat)(P:Program)(c:Code)(Q:Exit→Act→World→Prop)(a:Act)(w:World):Prop:=
 ∀(b:Frame) (k:List Item) (cs:List Frame),b.roundOf=F.round→F.fn b.fn→F.room (cs.length+1+n)→
  ∃e a' w',Q e a' w'∧ArrivesIn (Machine.fenced P F) P (lone (b.atR a (.code c::.inLoop c::k)) cs w) b k cs e a' w'
def lW(rd:Bool)(c:AC)(e:Env)(h:Heap)(x:AX)(e':Env)(h':Heap):Prop:=
 ∀(code:Code),aE P code=c→∀(N:Nat),codeOk N c=true→∀(ro:Option Nat),ro.isSome=rd→∀(ρ:cG) (D:Dom) (w:World) (a:Act) (W0 n:Nat) (tl:List Deferred),
  Inv P H0 ρ D h w→bG ρ D N e a→jc tl W0 ρ D h w a.defers→W0≤w.heap.size→rJ (FW ro) n P code (lX P H0 (aU c) a.defers tl W0 ρ D h w N x e' h') a w
def Af(Q:AX→Env→Heap→Prop)(nr:Bool)(ds:List Deferred)(tl:List Deferred)(W0:Nat)(ρ:cG)(D:Dom)(h:Heap)(w:World)(N:Nat):Exit→Act→World→Prop:=fun ex a' w'=>
 ∃x e' h',Q x e' h'∧lX P H0 nr ds tl W0 ρ D h w N x e' h' ex a' w'
def fT(rd:Bool)(c:AC)(e:Env)(h:Heap)(Q:AX→Env→Heap→Prop):Prop:=
 ∀(code:Code),aE P code=c→∀(N:Nat),codeOk N c=true→∀(ro:Option Nat),ro.isSome=rd→∀(ρ:cG) (D:Dom) (w:World) (a:Act) (W0 n:Nat) (tl:List Deferred),
  Inv P H0 ρ D h w→bG ρ D N e a→jc tl W0 ρ D h w a.defers→W0≤w.heap.size→code.wpIn (FW ro) n P (Af P H0 Q (aU c) a.defers tl W0 ρ D h w N) a w
def rR(rd:Bool)(c:AC)(e:Env)(h:Heap)(Q:AX→Env→Heap→Prop):Prop:=
 ∀(code:Code),aE P code=c→∀(N:Nat),codeOk N c=true→∀(ro:Option Nat),ro.isSome=rd→∀(ρ:cG) (D:Dom) (w:World) (a:Act) (W0 n:Nat) (tl:List Deferred),
  Inv P H0 ρ D h w→bG ρ D N e a→jc tl W0 ρ D h w a.defers→W0≤w.heap.size→rJ (FW ro) n P code (Af P H0 Q (aU c) a.defers tl W0 ρ D h w N) a w
def Sound:Task→iF→Prop
 |.code rd c e h,.code x e' h'=>bD P H0 rd c e h x e' h'∧∀c',c=.loop c'→lW P H0 rd c' e h x e' h'
 |.any rd c e h,.post Q=>fT P H0 rd c e h Q∧∀c',c=.loop c'→rR P H0 rd c' e h Q
 |.ops _ l e h,.ops tr e' h'=>OT P H0 l e h tr e' h'
 |.op _ op vals h,.val v h1=>ux P H0 op vals h v h1
 |.cK fv args h,.val v h1=>rM P H0 fv args h v h1
 |.op _ op vals h,.jh v h1=>op≠.bad∧mo P H0 op vals h v h1
 |.cK fv args h,.jh v h1=>pP P H0 fv args h v h1
 |.call f args h,.jh v h1=>mG P H0 f args h v h1∧∀(args:Array Value) (w:World),(callFunc f args).run P w=.ok (.enter f args) w
 |.call f args h,.val v h1=>fR P H0 f args h v h1∧∀(args:Array Value) (w:World),(callFunc f args).run P w=.ok (.enter f args) w
 |_,_=>True
end
section
variable {P:Program} {H0 W0:Nat} {ρ ρ':cG} {D D':Dom} {h h' h1:Heap} {w w':World} {N n:Nat} {env e e':Env} {a:Act} {ro:Option Nat}
theorem jc.ext{tl ds:List Deferred}(m:jc tl W0 ρ D h w ds)(hlt:∀b,D b→b<h.next)(x:Ext ρ D h w ρ' h' w'):jc tl W0 ρ' (grow D h.next h'.next) h' w' ds:=by
 obtain⟨rs,h1,h2,h3⟩:=m;refine⟨rs,h1,h2,fun r hr=>?_⟩;obtain⟨g1,g2,g3⟩:=h3 r hr;have hlr:r<w.heap.size:=(Array.getElem?_eq_some_iff.1 g2).1;have gp:∀b,D b→h.wr b=true→(ρ b).bH≠r:=fun b hd hw=>g3 b hd (Heap.eu hw);refine⟨g1,by rw[x.frame r hlr gp];exact g2,?_⟩;rintro b (hb|⟨oA,gn⟩) hn
 ·rw[x.bA b hb];exact g3 b hb (x.old b (hlt b hb) hn).1
 ·rcases x.fresh b oA gn with hf|⟨b0,hd,hw,heq⟩
  ·omega
  ·rw[←heq];exact gp b0 hd hw
theorem bG.mono(he:bG ρ D N e a)(ga:∀b,D b→ρ' b=ρ b)(hD:∀b,D b→D' b):bG ρ' D' N e a where
 size:=he.size
 get:=fun i=>by rw[cn ga _ (he.dom i)];exact he.get i
 dom:=fun i=>cO hD _ (he.dom i)
theorem ej(e:Env)(d:Option Nat)(v:AV)(t:Nat):(e.put d v).get t=if d=some t then v else e.get t:=by
 cases d with
 |none=>simp[Env.put]
 |some d=>
  simp only[Env.put,Env.get,Tr.aT,Option.some.injEq];by_cases h:t=d
  ·subst h;simp
  ·rw[if_neg h,if_neg (fun e=>h e.symm)]
theorem bG.put{d:Option Nat}{v:AV}(he:bG ρ D N e a)(hd:vk N d=true)(hv:v.aW D):bG ρ D N (e.put d v) (a.put d (real ρ v)):=by
 cases d with
 |none=>exact he
 |some d=>
  have hlt:d<N:=Nat.le_of_ble_eq_true (show Nat.ble (d+1) N=true from hd);refine⟨by simp[Act.put,he.size],fun i=>?_,fun i=>?_⟩
  ·rw[ej];simp only[Act.put,Option.some.injEq];by_cases h:d=i
   ·subst h;simp[Array.getD_eq_getD_getElem?,he.size,hlt]
   ·rw[if_neg h,←he.get i];simp[Array.getD_eq_getD_getElem?,Array.getElem?_setIfInBounds_ne h]
  ·rw[ej];split
   ·exact hv
   ·exact he.dom i
theorem fA(ρ:cG):real ρ .undef=Go.undef:=by simp[AV.undef,real,aq,Go.undef]
theorem cN{ops:Array Oper}{o:Oper}{i:bp}(h:bE P ops o=i):i.dst=o.dst∧
  (i.op≠.bad∨i.guard.isSome=true→aD P o.op=some (i.op,i.args)∧(match o.guard with
   |none=>i.guard=none
   |some (j,want)=>∃d,(ops[j]?).bind (·.dst)=some d∧i.guard=some (d,want))):=by
 unfold bE at h;simp only at h;split at h
 ·rename_i g op as hg hc;subst h;refine⟨rfl,fun _=>⟨hc,?_⟩⟩;cases ho:o.guard with
  |none=>simp[ho] at hg;simp[hg]
  |some jw=>
   obtain⟨j,want⟩:=jw;simp only[ho] at hg;split at hg
   ·rename_i d hd;simp only[Option.some.injEq] at hg;exact⟨d,hd,hg.symm⟩
   ·simp at hg
 ·subst h;exact⟨rfl,fun hh=>by simp at hh⟩
theorem dV{ops:Array Oper}{o:Oper}{i:bp}(hc:bE P ops o=i)(hi:i.op≠.bad∨i.guard.isSome=true)(he:bG ρ D N e a):
  Region.wanted o (yielded ops a.tmps)=bO i e:=by
 have hinv:=((cN hc).2 hi).2;unfold Region.wanted bO;cases ho:o.guard with
 |none=>
  rw[ho] at hinv;rw[hinv]
 |some jw=>
  obtain⟨j,want⟩:=jw;rw[ho] at hinv;obtain⟨d,hd,hg⟩:=hinv;rw[hg];simp only[yielded,hd,Option.bind_some];have cu:=he.get d;rw[Array.getD_eq_getD_getElem?] at cu;cases hx:e.get d<;>rw[hx] at cu<;>simp only[real] at cu<;>cases ht:a.tmps[d]?<;>simp[ht,Go.undef] at cu<;>first|(subst cu;simp)|skip
  all_goals (try rfl)
  all_goals simp_all
theorem wB{o:Oper}{op:fG}{rs:List bx}(hc:aD P o.op=some (op,rs))(IT:Operand→Value):Oper.semAt ro IT o=execOp IT o:=by
 refine Oper.semAt_eq ro IT o ?_;intro c hd;rw[hd] at hc;simp[aD] at hc
theorem gj{o:Oper}{op:fG}{rs:List bx}{next:Act→World→Prop}{Q:Exit→Act→World→Prop}(hc:aD P o.op=some (op,rs))
  (h:o.uponIn (FW ro) n P a next Q ((execOp a.eval o).run P w)):o.wpIn (FW ro) n P a w next Q:=by
 refine⟨fun _ _=>trivial,?_⟩;show o.uponIn (FW ro) n P a next Q ((Oper.semAt ro a.eval o).run P w)
 rw[wB hc];exact h
theorem ux.sem{op:fG}{vals:List AV}{v:AV}{h0:Heap}(h:ux P H0 op vals h0 v h1):KP P H0 op vals h0 v h1:=by
 cases op with
 |p o=>
  obtain⟨hp,rfl⟩:=h;intro o' rs hc ρ D w a N env ro n hi he hv next Q hk
  subst hv;have:=vX (w:=w) he hc hp;refine gj hc ?_;rw[this.1];exact hk ρ w (by rw[bn];exact hi) (Ext.refl _ _ _ _) (by rw[bn];exact this.2)
 |a o=>
  obtain⟨x,f,hp,rfl,rfl⟩:=h;intro o' rs hc ρ D w a N env ro n hi he hv next Q hk
  subst hv;obtain⟨obj,hrun,zg,hf⟩:=Ag (H0:=H0) (w:=w) he hc hp;refine gj hc ?_;have hst:=pG (w':=w.alloc obj) hi x 0 obj rfl rfl rfl rfl (zg _ _ (fun _=>.inl) (fun b hb=>jI _ _ (by have:=hi.lt b hb;omega)) hi.low);rw[hrun h0.next (j5 ρ h0.next ⟨w.heap.size,0,0⟩) (bM _ _ _)];exact hk _ _ hst.1 hst.2 (hf _ _ (.inr ⟨Nat.le_refl _,by simp⟩))
 |r o=>
  obtain⟨hp,rfl⟩:=h;intro o' rs hc ρ D w a N env ro n hi he hv next Q hk
  subst hv;have:=Bt he hi hc hp;refine gj hc ?_;rw[this.1];exact hk ρ w (by rw[bn];exact hi) (Ext.refl _ _ _ _) (by rw[bn];exact this.2)
 |bad=>exact absurd h (by simp[ux])
 |e o=>exact h
 |call=>exact h
 |invoke s=>exact h
 |panic=>exact h
theorem Kf{o:wW}{vals:List AV}{v:AV}(hv:eI o vals h=some (v,h1)):ux P H0 (.e o) vals h v h1:=by
 intro o' rs hc ρ D w a N env ro n hi he mT next Q hk
 subst mT;obtain⟨ρ',w',hrun,hinv,mw,hd⟩:=Gk he hi hc hv;refine gj hc ?_;rcases hrun with hrun|⟨hrun,rfl⟩
 ·rw[hrun];exact hk ρ' w' hinv mw hd
 ·rw[hrun];have:=hk ρ' w' hinv mw hd;rw[fA] at this;exact this
theorem Kg{o:wW}{vals:List AV}{v:AV}(hv:eK o vals h=some (v,h1)):ux P H0 (.e o) vals h v h1:=by
 intro o' rs hc ρ D w a N env ro n hi he mT next Q hk
 subst mT;obtain⟨ρ',w',hrun,hinv,mw,hd⟩:=Gl he hi hc hv;refine gj hc ?_;rcases hrun with hrun|⟨hrun,rfl⟩
 ·rw[hrun];exact hk ρ' w' hinv mw hd
 ·rw[hrun];have:=hk ρ' w' hinv mw hd;rw[fA] at this;exact this
theorem qf{YH:List Oper}{Q:Exit→Act→World→Prop}:∀{l:List bp} {e:Env} {h:Heap} {tr:List aK} {e':Env} {h':Heap},OT P H0 l e h tr e' h'→
  ∀{ops:Array Oper} {os:List Oper},os.map (bE P ops)=l→cY N l=true→∀{ρ:cG} {D:Dom} {w:World} {a:Act},Inv P H0 ρ D h w→bG ρ D N e a→
  (∀ρ' w' a',Inv P H0 ρ' (grow D h.next h'.next) h' w'→Ext ρ D h w ρ' h' w'→bG ρ' (grow D h.next h'.next) N e' a'→a'.defers=a.defers→wpListIn (FW ro) n P ops Q YH a' w')→
  wpListIn (FW ro) n P ops Q (os++YH) a w
 |[],e,h,tr,e',h',j8,ops,os,hos,hok,ρ,D,w,a,hi,he,hk=>by
  cases tr with
  |cons m tr=>simp[OT] at j8
  |nil=>
   simp only[OT] at j8;obtain⟨rfl,rfl⟩:=j8;have:os=[]:=by simpa using hos
   subst this;exact hk ρ w a (by rw[bn];exact hi) (Ext.refl _ _ _ _) (by rw[bn];exact he) rfl
 |i::l,e,h,tr,e',h',j8,ops,os,hos,hok,ρ,D,w,a,hi,he,hk=>by
  cases tr with
  |nil=>simp[OT] at j8
  |cons m tr=>
   cases os with
   |nil=>simp at hos
   |cons o os=>
    simp only[List.map_cons,List.cons.injEq] at hos;simp only[cY,Bool.and_eq_true] at hok;simp only[OT] at j8;obtain⟨A2,x7,j8⟩:=j8;have lu:=(cN hos.1).1;rcases j8 with⟨gb,hw,hv,kr⟩|⟨gb,hw,h1,hop,kr⟩
    ·
     have hg:i.guard.isSome=true:=by
      cases hg:i.guard with
      |none=>simp[bO,hg] at hw
      |some _=>rfl
     have gp:=dV hos.1 (.inr hg) he;rw[List.cons_append];unfold wpListIn;rw[if_neg (by rw[gp,hw];simp)];refine⟨fun _ _=>trivial,?_⟩;rw[←fA ρ,←lu];exact qf kr hos.2 hok.2 hi (he.put hok.1 (by simp[AV.undef,AV.aW,bl])) (fun ρ' w' a' g1 g2 g3 g4=>hk ρ' w' a' g1 g2 g3 (g4.trans (by cases i.dst<;>rfl)))
    ·have hnb:i.op≠.bad:=by
      intro hb;rw[hb] at hop;exact hop
     have gp:=dV hos.1 (.inl hnb) he;have hc:=((cN hos.1).2 (.inl hnb)).1;rw[List.cons_append];unfold wpListIn;rw[if_pos (by rw[gp,hw])];refine hop.sem o i.args hc ρ D w a N e ro n hi he x7.symm _ _ ?_;intro ρ' w' g1 g2 g3;rw[←lu];have he':bG ρ' (grow D h.next h1.next) N (e.put i.dst m.v) (a.put i.dst (real ρ' m.v)):=(he.mono g2.bA (fun _=>.inl)).put hok.1 g3;refine qf kr hos.2 hok.2 g1 he' ?_;intro BQ w'' QL k1 k2 k3 k4;have Oy:=g2.next;have hn2:=k2.next;rw[dH D Oy hn2] at k1 k3;exact hk BQ w'' QL k1 (Ext.trans hi.lt g2 k2) k3 (k4.trans (by cases i.dst<;>rfl))
theorem nP{Q:Exit→Act→World→Prop}{l:List bp}{e:Env}{h:Heap}{tr:List aK}{e':Env}{h':Heap}(j8:OT P H0 l e h tr e' h')
  {ops:Array Oper}{os:List Oper}(hos:os.map (bE P ops)=l)(hok:cY N l=true){ρ:cG}{D:Dom}{w:World}{a:Act}(hi:Inv P H0 ρ D h w)(he:bG ρ D N e a)
  (hk:∀ρ' w' a',Inv P H0 ρ' (grow D h.next h'.next) h' w'→Ext ρ D h w ρ' h' w'→bG ρ' (grow D h.next h'.next) N e' a'→a'.defers=a.defers→Q .normal a' w'):
  wpListIn (FW ro) n P ops Q os a w:=by
 have:=qf (YH:=[]) (ro:=ro) (n:=n) (Q:=Q) j8 hos hok hi he hk
 rwa [List.append_nil] at this
theorem jM{v:AV}{h2:Heap}{i0:bp}{l2:List bp}{Q:Exit→Act→World→Prop}:∀{l:List bp} {e:Env} {h:Heap} {tr:List aK} {e':Env} {h':Heap},OT P H0 l e h tr e' h'→
  bO i0 e'=true→i0.op≠.bad→mo P H0 i0.op (i0.args.map e'.ev) h' v h2→
  ∀{ops:Array Oper} {os:List Oper},os.map (bE P ops)=l++i0::l2→cY N l=true→∀{ρ:cG} {D:Dom} {w:World} {a:Act},Inv P H0 ρ D h w→bG ρ D N e a→
  (∀ρ' w' a',Inv P H0 ρ' (grow D h.next h2.next) h2 w'→Ext ρ D h w ρ' h2 w'→bG ρ' (grow D h.next h2.next) N e' a'→a'.defers=a.defers→v.aW (grow D h.next h2.next)→Q (.panic [{v:=real ρ' v,recovered:=false}]) a' w')→
  wpListIn (FW ro) n P ops Q os a w
 |[],e,h,tr,e',h',j8,hw0,hb0,JQ,ops,os,hos,hok,ρ,D,w,a,hi,he,hk=>by
  cases tr with
  |cons m tr=>simp[OT] at j8
  |nil=>
   simp only[OT] at j8;obtain⟨rfl,rfl⟩:=j8;cases os with
   |nil=>simp at hos
   |cons o os=>
    simp only[List.map_cons,List.nil_append,List.cons.injEq] at hos;have gp:=dV hos.1 (.inl hb0) he;have hc:=((cN hos.1).2 (.inl hb0)).1;unfold wpListIn;rw[if_pos (by rw[gp,hw0])];refine JQ o i0.args hc ρ D w a N e' ro n hi he rfl _ _ ?_;intro ρ' w' g1 g2 g3;exact hk ρ' w' a g1 g2 (he.mono g2.bA (fun _=>.inl)) rfl g3
 |i::l,e,h,tr,e',h',j8,hw0,hb0,JQ,ops,os,hos,hok,ρ,D,w,a,hi,he,hk=>by
  cases tr with
  |nil=>simp[OT] at j8
  |cons m tr=>
   cases os with
   |nil=>simp at hos
   |cons o os=>
    simp only[List.map_cons,List.cons_append,List.cons.injEq] at hos;simp only[cY,Bool.and_eq_true] at hok;simp only[OT] at j8;obtain⟨A2,x7,j8⟩:=j8;have lu:=(cN hos.1).1;rcases j8 with⟨gb,hw,hv,kr⟩|⟨gb,hw,h1,hop,kr⟩
    ·have hg:i.guard.isSome=true:=by
      cases hg:i.guard with
      |none=>simp[bO,hg] at hw
      |some _=>rfl
     have gp:=dV hos.1 (.inr hg) he;unfold wpListIn;rw[if_neg (by rw[gp,hw];simp)];refine⟨fun _ _=>trivial,?_⟩;rw[←fA ρ,←lu];exact jM kr hw0 hb0 JQ hos.2 hok.2 hi (he.put hok.1 (by simp[AV.undef,AV.aW,bl])) (fun ρ' w' a' g1 g2 g3 g4 g5=>hk ρ' w' a' g1 g2 g3 (g4.trans (by cases i.dst<;>rfl)) g5)
    ·have hnb:i.op≠.bad:=by
      intro hb;rw[hb] at hop;exact hop
     have gp:=dV hos.1 (.inl hnb) he;have hc:=((cN hos.1).2 (.inl hnb)).1;unfold wpListIn;rw[if_pos (by rw[gp,hw])];refine hop.sem o i.args hc ρ D w a N e ro n hi he x7.symm _ _ ?_;intro ρ' w' g1 g2 g3;rw[←lu];have he':bG ρ' (grow D h.next h1.next) N (e.put i.dst m.v) (a.put i.dst (real ρ' m.v)):=(he.mono g2.bA (fun _=>.inl)).put hok.1 g3;refine jM kr hw0 hb0 JQ hos.2 hok.2 g1 he' ?_;intro BQ w'' QL k1 k2 k3 k4 k5;have Oy:=g2.next;have hn2:=k2.next;rw[dH D Oy hn2] at k1 k3 k5;exact hk BQ w'' QL k1 (Ext.trans hi.lt g2 k2) k3 (k4.trans (by cases i.dst<;>rfl)) k5
theorem qc{l m:List bp}:cY N (l++m)=(cY N l&&cY N m):=by
 induction l with
 |nil=>rfl
 |cons i l ih=>simp only[List.cons_append,cY,ih,Bool.and_assoc]
end
end Ads
end Go.Proofs.YtmnolnoeibhjgaaGreat
