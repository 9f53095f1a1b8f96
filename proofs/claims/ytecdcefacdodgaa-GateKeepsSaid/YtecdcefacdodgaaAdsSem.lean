/-
  What big steps mean in the model: operations, calls, regions in the text's order.
-/
import Derived.Test.YtecdcefacdodgaaAdsBig
set_option linter.unusedSimpArgs false
set_option linter.unusedVariables false
namespace Go.Proofs.Ytecdcefacdodgaa
namespace Ads
def FW(ro:Option Nat):Fence:={Fence.wide with round:=ro}
def marksOf(rs:List Nat):List Deferred:=rs.map fun r=>{target:=.collected r,args:=#[]}
def iG(tl:List Deferred)(W0:Nat)(ρ:cn)(D:Dom)(h:Heap)(w:World)(ds:List Deferred):Prop:=
 ∃rs,ds=marksOf rs++tl∧rs.Nodup∧∀r∈rs,W0≤r∧w.heap[r]?=some (.deferred (some []))∧∀b,D b→h.get b≠none→(ρ b).bB≠r
section
variable (P:Program) (H0:Nat)
def M1(op:fh)(vals:List AV)(h:Heap)(v:AV)(h1:Heap):Prop:=
 ∀(o:Oper) (rs:List bA),an P o.op=some (op,rs)→∀(ρ:cn) (D:Dom) (w:World) (a:Act) (N:Nat) (env:Env) (ro:Option Nat) (n:Nat),
  Inv P H0 ρ D h w→bz ρ D N env a→rs.map env.ev=vals→∀(next:Act→World→Prop) (Q:Exit→Act→World→Prop),
  (∀ρ' w',Inv P H0 ρ' (grow D h.next h1.next) h1 w'→Ext ρ D h w ρ' h1 w'→v.aP (grow D h.next h1.next)→next (a.put o.dst (real ρ' v)) w')→
  o.wpIn (FW ro) n P a w next Q
def uL(op:fh)(vals:List AV)(h:Heap)(v:AV)(h1:Heap):Prop:=
 match op with
 |.p o=>pI o vals=some v∧h1=h
 |.a o=>∃x f,aI o vals=some (x,f)∧v=f h.next∧h1=h.new x
 |.r o=>rI o vals h=some v∧h1=h
 |.bad=>False
 |op=>M1 P H0 op vals h v h1
def OT:List bh→Env→Heap→List aG→Env→Heap→Prop
 |[],e,h,[],e',h'=>e'=e∧h'=h
 |i::l,e,h,m::tr,e',h'=>m.h=h∧m.vals=i.args.map e.ev∧
   ((m.on=false∧bF i e=false∧m.v=.undef∧OT l (e.put i.dst .undef) h tr e' h')∨
    (m.on=true∧bF i e=true∧∃h1,uL P H0 i.op m.vals h m.v h1∧OT l (e.put i.dst m.v) h1 tr e' h'))
 |_,_,_,_,_,_=>False
def fF(f:Nat)(args:List AV)(h:Heap)(v:AV)(h1:Heap):Prop:=
 ∀(ρ:cn) (D:Dom) (w:World) (n:Nat),Inv P H0 ρ D h w→aW D args→CallsIn Fence.wide n P f (aa ρ args).toArray w fun e w'=>
  ∃ρ',e=.returned (real ρ' v)∧Inv P H0 ρ' (grow D h.next h1.next) h1 w'∧Ext ρ D h w ρ' h1 w'∧v.aP (grow D h.next h1.next)
def rM(fv:AV)(args:List AV)(h:Heap)(v:AV)(h1:Heap):Prop:=
 ∀(ρ:cn) (D:Dom) (w:World),Inv P H0 ρ D h w→fv.aP D→aW D args→∀(o:Oper) (a:Act) (ro:Option Nat) (n:Nat) (next:Act→World→Prop) (Q:Exit→Act→World→Prop),
  (∀ρ' w',Inv P H0 ρ' (grow D h.next h1.next) h1 w'→Ext ρ D h w ρ' h1 w'→v.aP (grow D h.next h1.next)→next (a.put o.dst (real ρ' v)) w')→
  o.uponIn (FW ro) n P a next Q ((do let d ←Deferred.ofValue (real ρ fv) (aa ρ args).toArray;invoke d.target d.args:Sem Next).run P w)
def He(ρ:cn)(D:Dom):AX→Exit→Prop
 |.normal,ex=>ex=.normal
 |.exit id,ex=>ex=.exit id
 |.ret,ex=>ex=.ret
 |.panic v,ex=>ex=.panic [{v:=real ρ v,recovered:=false}]∧v.aP D
def l8(nr:Bool)(ds:List Deferred)(tl:List Deferred)(W0:Nat)(ρ:cn)(D:Dom)(h:Heap)(w:World)(N:Nat)(x:AX)(e':Env)(h':Heap):Exit→Act→World→Prop:=fun ex a' w'=>
 ∃ρ',He ρ' (grow D h.next h'.next) x ex∧Inv P H0 ρ' (grow D h.next h'.next) h' w'∧Ext ρ D h w ρ' h' w'∧bz ρ' (grow D h.next h'.next) N e' a'∧iG tl W0 ρ' (grow D h.next h'.next) h' w' a'.defers∧(nr=true→a'.defers=ds)
def bu(rd:Bool)(c:AC)(e:Env)(h:Heap)(x:AX)(e':Env)(h':Heap):Prop:=
 ∀(code:Code),ay P code=c→∀(N:Nat),codeOk N c=true→∀(ro:Option Nat),ro.isSome=rd→∀(ρ:cn) (D:Dom) (w:World) (a:Act) (W0 n:Nat) (tl:List Deferred),
  Inv P H0 ρ D h w→bz ρ D N e a→iG tl W0 ρ D h w a.defers→W0≤w.heap.size→code.wpIn (FW ro) n P (l8 P H0 (aR c) a.defers tl W0 ρ D h w N x e' h') a w
def mF(op:fh)(vals:List AV)(h:Heap)(v:AV)(h1:Heap):Prop:=
 ∀(o:Oper) (rs:List bA),an P o.op=some (op,rs)→∀(ρ:cn) (D:Dom) (w:World) (a:Act) (N:Nat) (env:Env) (ro:Option Nat) (n:Nat),
  Inv P H0 ρ D h w→bz ρ D N env a→rs.map env.ev=vals→∀(next:Act→World→Prop) (Q:Exit→Act→World→Prop),
  (∀ρ' w',Inv P H0 ρ' (grow D h.next h1.next) h1 w'→Ext ρ D h w ρ' h1 w'→v.aP (grow D h.next h1.next)→Q (.panic [{v:=real ρ' v,recovered:=false}]) a w')→
  o.wpIn (FW ro) n P a w next Q
def mQ(f:Nat)(args:List AV)(h:Heap)(v:AV)(h1:Heap):Prop:=
 ∀(ρ:cn) (D:Dom) (w:World) (n:Nat),Inv P H0 ρ D h w→aW D args→CallsIn Fence.wide n P f (aa ρ args).toArray w fun e w'=>
  ∃ρ',e=.panicked [{v:=real ρ' v,recovered:=false}]∧Inv P H0 ρ' (grow D h.next h1.next) h1 w'∧Ext ρ D h w ρ' h1 w'∧v.aP (grow D h.next h1.next)
def pQ(fv:AV)(args:List AV)(h:Heap)(v:AV)(h1:Heap):Prop:=
 ∀(ρ:cn) (D:Dom) (w:World),Inv P H0 ρ D h w→fv.aP D→aW D args→∀(o:Oper) (a:Act) (ro:Option Nat) (n:Nat) (next:Act→World→Prop) (Q:Exit→Act→World→Prop),
  (∀ρ' w',Inv P H0 ρ' (grow D h.next h1.next) h1 w'→Ext ρ D h w ρ' h1 w'→v.aP (grow D h.next h1.next)→Q (.panic [{v:=real ρ' v,recovered:=false}]) a w')→
  o.uponIn (FW ro) n P a next Q ((do let d ←Deferred.ofValue (real ρ fv) (aa ρ args).toArray;invoke d.target d.args:Sem Next).run P w)
def rK(F:Fence)(n:Nat)(P:Program)(c:Code)(Q:Exit→Act→World→Prop)(a:Act)(w:World):Prop:=
 ∀(b:Frame) (k:List Item) (cs:List Frame),b.roundOf=F.round→F.fn b.fn→F.room (cs.length+1+n)→
  ∃e a' w',Q e a' w'∧ArrivesIn (Machine.fenced P F) P (lone (b.atR a (.code c::.inLoop c::k)) cs w) b k cs e a' w'
def l7(rd:Bool)(c:AC)(e:Env)(h:Heap)(x:AX)(e':Env)(h':Heap):Prop:=
 ∀(code:Code),ay P code=c→∀(N:Nat),codeOk N c=true→∀(ro:Option Nat),ro.isSome=rd→∀(ρ:cn) (D:Dom) (w:World) (a:Act) (W0 n:Nat) (tl:List Deferred),
  Inv P H0 ρ D h w→bz ρ D N e a→iG tl W0 ρ D h w a.defers→W0≤w.heap.size→rK (FW ro) n P code (l8 P H0 (aR c) a.defers tl W0 ρ D h w N x e' h') a w
def AG(Q:AX→Env→Heap→Prop)(nr:Bool)(ds:List Deferred)(tl:List Deferred)(W0:Nat)(ρ:cn)(D:Dom)(h:Heap)(w:World)(N:Nat):Exit→Act→World→Prop:=fun ex a' w'=>
 ∃x e' h',Q x e' h'∧l8 P H0 nr ds tl W0 ρ D h w N x e' h' ex a' w'
def fG(rd:Bool)(c:AC)(e:Env)(h:Heap)(Q:AX→Env→Heap→Prop):Prop:=
 ∀(code:Code),ay P code=c→∀(N:Nat),codeOk N c=true→∀(ro:Option Nat),ro.isSome=rd→∀(ρ:cn) (D:Dom) (w:World) (a:Act) (W0 n:Nat) (tl:List Deferred),
  Inv P H0 ρ D h w→bz ρ D N e a→iG tl W0 ρ D h w a.defers→W0≤w.heap.size→code.wpIn (FW ro) n P (AG P H0 Q (aR c) a.defers tl W0 ρ D h w N) a w
def rN(rd:Bool)(c:AC)(e:Env)(h:Heap)(Q:AX→Env→Heap→Prop):Prop:=
 ∀(code:Code),ay P code=c→∀(N:Nat),codeOk N c=true→∀(ro:Option Nat),ro.isSome=rd→∀(ρ:cn) (D:Dom) (w:World) (a:Act) (W0 n:Nat) (tl:List Deferred),
  Inv P H0 ρ D h w→bz ρ D N e a→iG tl W0 ρ D h w a.defers→W0≤w.heap.size→rK (FW ro) n P code (AG P H0 Q (aR c) a.defers tl W0 ρ D h w N) a w
def Sound:Task→iw→Prop
 |.code rd c e h,.code x e' h'=>bu P H0 rd c e h x e' h'∧∀c',c=.loop c'→l7 P H0 rd c' e h x e' h'
 |.any rd c e h,.post Q=>fG P H0 rd c e h Q∧∀c',c=.loop c'→rN P H0 rd c' e h Q
 |.ops _ l e h,.ops tr e' h'=>OT P H0 l e h tr e' h'
 |.op _ op vals h,.val v h1=>uL P H0 op vals h v h1
 |.cu fv args h,.val v h1=>rM P H0 fv args h v h1
 |.op _ op vals h,.jm v h1=>op≠.bad∧mF P H0 op vals h v h1
 |.cu fv args h,.jm v h1=>pQ P H0 fv args h v h1
 |.call f args h,.jm v h1=>mQ P H0 f args h v h1∧∀(args:Array Value) (w:World),(callFunc f args).run P w=.ok (.enter f args) w
 |.call f args h,.val v h1=>fF P H0 f args h v h1∧∀(args:Array Value) (w:World),(callFunc f args).run P w=.ok (.enter f args) w
 |_,_=>True
end
section
variable {P:Program} {H0 W0:Nat} {ρ ρ':cn} {D D':Dom} {h h' h1:Heap} {w w':World} {N n:Nat} {env e e':Env} {a:Act} {ro:Option Nat}
theorem iG.ext{tl ds:List Deferred}(m:iG tl W0 ρ D h w ds)(hlt:∀b,D b→b<h.next)(x:Ext ρ D h w ρ' h' w'):iG tl W0 ρ' (grow D h.next h'.next) h' w' ds:=by
 obtain⟨rs,h1,h2,h3⟩:=m;refine⟨rs,h1,h2,fun r hr=>?_⟩;obtain⟨g1,g2,g3⟩:=h3 r hr;have hlr:r<w.heap.size:=(Array.getElem?_eq_some_iff.1 g2).1;have gT:∀b,D b→h.wr b=true→(ρ b).bB≠r:=fun b hd hw=>g3 b hd (Heap.ec hw);refine⟨g1,by rw[x.frame r hlr gT];exact g2,?_⟩;rintro b (hb|⟨r6,jf⟩) hn
 ·rw[x.bp b hb];exact g3 b hb (x.old b (hlt b hb) hn).1
 ·rcases x.fresh b r6 jf with hf|⟨b0,hd,hw,heq⟩
  ·omega
  ·rw[←heq];exact gT b0 hd hw
theorem bz.mono(he:bz ρ D N e a)(fI:∀b,D b→ρ' b=ρ b)(hD:∀b,D b→D' b):bz ρ' D' N e a where
 size:=he.size
 get:=fun i=>by rw[bU fI _ (he.dom i)];exact he.get i
 dom:=fun i=>cz hD _ (he.dom i)
theorem dV(e:Env)(d:Option Nat)(v:AV)(t:Nat):(e.put d v).get t=if d=some t then v else e.get t:=by
 cases d with
 |none=>simp[Env.put]
 |some d=>
  simp only[Env.put,Env.get,Tr.bl,Option.some.injEq];by_cases h:t=d
  ·subst h;simp
  ·rw[if_neg h,if_neg (fun e=>h e.symm)]
theorem bz.put{d:Option Nat}{v:AV}(he:bz ρ D N e a)(hd:vA N d=true)(hv:v.aP D):bz ρ D N (e.put d v) (a.put d (real ρ v)):=by
 cases d with
 |none=>exact he
 |some d=>
  have hlt:d<N:=Nat.le_of_ble_eq_true (show Nat.ble (d+1) N=true from hd);refine⟨by simp[Act.put,he.size],fun i=>?_,fun i=>?_⟩
  ·rw[dV];simp only[Act.put,Option.some.injEq];by_cases h:d=i
   ·subst h;simp[Array.getD_eq_getD_getElem?,he.size,hlt]
   ·rw[if_neg h,←he.get i];simp[Array.getD_eq_getD_getElem?,Array.getElem?_setIfInBounds_ne h]
  ·rw[dV];split
   ·exact hv
   ·exact he.dom i
theorem eY(ρ:cn):real ρ .undef=Go.undef:=by simp[AV.undef,real,aa,Go.undef]
theorem cw{ops:Array Oper}{o:Oper}{i:bh}(h:bw P ops o=i):i.dst=o.dst∧
  (i.op≠.bad∨i.guard.isSome=true→an P o.op=some (i.op,i.args)∧(match o.guard with
   |none=>i.guard=none
   |some (j,want)=>∃d,(ops[j]?).bind (·.dst)=some d∧i.guard=some (d,want))):=by
 unfold bw at h;simp only at h;split at h
 ·rename_i g op as hg hc;subst h;refine⟨rfl,fun _=>⟨hc,?_⟩⟩;cases ho:o.guard with
  |none=>simp[ho] at hg;simp[hg]
  |some jw=>
   obtain⟨j,want⟩:=jw;simp only[ho] at hg;split at hg
   ·rename_i d hd;simp only[Option.some.injEq] at hg;exact⟨d,hd,hg.symm⟩
   ·simp at hg
 ·subst h;exact⟨rfl,fun hh=>by simp at hh⟩
theorem dL{ops:Array Oper}{o:Oper}{i:bh}(hc:bw P ops o=i)(hi:i.op≠.bad∨i.guard.isSome=true)(he:bz ρ D N e a):
  Region.wanted o (yielded ops a.tmps)=bF i e:=by
 have hinv:=((cw hc).2 hi).2;unfold Region.wanted bF;cases ho:o.guard with
 |none=>
  rw[ho] at hinv;rw[hinv]
 |some jw=>
  obtain⟨j,want⟩:=jw;rw[ho] at hinv;obtain⟨d,hd,hg⟩:=hinv;rw[hg];simp only[yielded,hd,Option.bind_some];have bW:=he.get d;rw[Array.getD_eq_getD_getElem?] at bW;cases hx:e.get d<;>rw[hx] at bW<;>simp only[real] at bW<;>cases ht:a.tmps[d]?<;>simp[ht,Go.undef] at bW<;>first|(subst bW;simp)|skip
  all_goals (try rfl)
  all_goals simp_all
theorem wP{o:Oper}{op:fh}{rs:List bA}(hc:an P o.op=some (op,rs))(Kt:Operand→Value):Oper.semAt ro Kt o=execOp Kt o:=by
 refine Oper.semAt_eq ro Kt o ?_;intro c hd;rw[hd] at hc;simp[an] at hc
theorem fM{o:Oper}{op:fh}{rs:List bA}{next:Act→World→Prop}{Q:Exit→Act→World→Prop}(hc:an P o.op=some (op,rs))
  (h:o.uponIn (FW ro) n P a next Q ((execOp a.eval o).run P w)):o.wpIn (FW ro) n P a w next Q:=by
 refine⟨fun _ _=>trivial,?_⟩;show o.uponIn (FW ro) n P a next Q ((Oper.semAt ro a.eval o).run P w)
 rw[wP hc];exact h
theorem uL.sem{op:fh}{vals:List AV}{v:AV}{h0:Heap}(h:uL P H0 op vals h0 v h1):M1 P H0 op vals h0 v h1:=by
 cases op with
 |p o=>
  obtain⟨hp,rfl⟩:=h;intro o' rs hc ρ D w a N env ro n hi he hv next Q hk
  subst hv;have:=wq (w:=w) he hc hp;refine fM hc ?_;rw[this.1];exact hk ρ w (by rw[aY];exact hi) (Ext.refl _ _ _ _) (by rw[aY];exact this.2)
 |a o=>
  obtain⟨x,f,hp,rfl,rfl⟩:=h;intro o' rs hc ρ D w a N env ro n hi he hv next Q hk
  subst hv;obtain⟨obj,hrun,zY,hf⟩:=AH (H0:=H0) (w:=w) he hc hp;refine fM hc ?_;have hst:=pH (w':=w.alloc obj) hi x 0 obj rfl rfl rfl rfl (zY _ _ (fun _=>.inl) (fun b hb=>jD _ _ (by have:=hi.lt b hb;omega)) hi.low);rw[hrun h0.next (kW ρ h0.next ⟨w.heap.size,0,0⟩) (bE _ _ _)];exact hk _ _ hst.1 hst.2 (hf _ _ (.inr ⟨Nat.le_refl _,by simp⟩))
 |r o=>
  obtain⟨hp,rfl⟩:=h;intro o' rs hc ρ D w a N env ro n hi he hv next Q hk
  subst hv;have:=Ca he hi hc hp;refine fM hc ?_;rw[this.1];exact hk ρ w (by rw[aY];exact hi) (Ext.refl _ _ _ _) (by rw[aY];exact this.2)
 |bad=>exact absurd h (by simp[uL])
 |e o=>exact h
 |call=>exact h
 |invoke s=>exact h
 |panic=>exact h
theorem MF{o:yb}{vals:List AV}{v:AV}(hv:eI o vals h=some (v,h1)):uL P H0 (.e o) vals h v h1:=by
 intro o' rs hc ρ D w a N env ro n hi he m0 next Q hk
 subst m0;obtain⟨ρ',w',hrun,hinv,mH,hd⟩:=HH he hi hc hv;refine fM hc ?_;rcases hrun with hrun|⟨hrun,rfl⟩
 ·rw[hrun];exact hk ρ' w' hinv mH hd
 ·rw[hrun];have:=hk ρ' w' hinv mH hd;rw[eY] at this;exact this
theorem MG{o:yb}{vals:List AV}{v:AV}(hv:eK o vals h=some (v,h1)):uL P H0 (.e o) vals h v h1:=by
 intro o' rs hc ρ D w a N env ro n hi he m0 next Q hk
 subst m0;obtain⟨ρ',w',hrun,hinv,mH,hd⟩:=HI he hi hc hv;refine fM hc ?_;rcases hrun with hrun|⟨hrun,rfl⟩
 ·rw[hrun];exact hk ρ' w' hinv mH hd
 ·rw[hrun];have:=hk ρ' w' hinv mH hd;rw[eY] at this;exact this
theorem qh{WE:List Oper}{Q:Exit→Act→World→Prop}:∀{l:List bh} {e:Env} {h:Heap} {tr:List aG} {e':Env} {h':Heap},OT P H0 l e h tr e' h'→
  ∀{ops:Array Oper} {os:List Oper},os.map (bw P ops)=l→cP N l=true→∀{ρ:cn} {D:Dom} {w:World} {a:Act},Inv P H0 ρ D h w→bz ρ D N e a→
  (∀ρ' w' a',Inv P H0 ρ' (grow D h.next h'.next) h' w'→Ext ρ D h w ρ' h' w'→bz ρ' (grow D h.next h'.next) N e' a'→a'.defers=a.defers→wpListIn (FW ro) n P ops Q WE a' w')→
  wpListIn (FW ro) n P ops Q (os++WE) a w
 |[],e,h,tr,e',h',j7,ops,os,hos,hok,ρ,D,w,a,hi,he,hk=>by
  cases tr with
  |cons m tr=>simp[OT] at j7
  |nil=>
   simp only[OT] at j7;obtain⟨rfl,rfl⟩:=j7;have:os=[]:=by simpa using hos
   subst this;exact hk ρ w a (by rw[aY];exact hi) (Ext.refl _ _ _ _) (by rw[aY];exact he) rfl
 |i::l,e,h,tr,e',h',j7,ops,os,hos,hok,ρ,D,w,a,hi,he,hk=>by
  cases tr with
  |nil=>simp[OT] at j7
  |cons m tr=>
   cases os with
   |nil=>simp at hos
   |cons o os=>
    simp only[List.map_cons,List.cons.injEq] at hos;simp only[cP,Bool.and_eq_true] at hok;simp only[OT] at j7;obtain⟨BH,yJ,j7⟩:=j7;have lC:=(cw hos.1).1;rcases j7 with⟨dI,hw,hv,kq⟩|⟨dI,hw,h1,hop,kq⟩
    ·
     have hg:i.guard.isSome=true:=by
      cases hg:i.guard with
      |none=>simp[bF,hg] at hw
      |some _=>rfl
     have gT:=dL hos.1 (.inr hg) he;rw[List.cons_append];unfold wpListIn;rw[if_neg (by rw[gT,hw];simp)];refine⟨fun _ _=>trivial,?_⟩;rw[←eY ρ,←lC];exact qh kq hos.2 hok.2 hi (he.put hok.1 (by simp[AV.undef,AV.aP,aW])) (fun ρ' w' a' g1 g2 g3 g4=>hk ρ' w' a' g1 g2 g3 (g4.trans (by cases i.dst<;>rfl)))
    ·have hnb:i.op≠.bad:=by
      intro hb;rw[hb] at hop;exact hop
     have gT:=dL hos.1 (.inl hnb) he;have hc:=((cw hos.1).2 (.inl hnb)).1;rw[List.cons_append];unfold wpListIn;rw[if_pos (by rw[gT,hw])];refine hop.sem o i.args hc ρ D w a N e ro n hi he yJ.symm _ _ ?_;intro ρ' w' g1 g2 g3;rw[←lC];have he':bz ρ' (grow D h.next h1.next) N (e.put i.dst m.v) (a.put i.dst (real ρ' m.v)):=(he.mono g2.bp (fun _=>.inl)).put hok.1 g3;refine qh kq hos.2 hok.2 g1 he' ?_;intro CB w'' QM k1 k2 k3 k4;have GX:=g2.next;have hn2:=k2.next;rw[dh D GX hn2] at k1 k3;exact hk CB w'' QM k1 (Ext.trans hi.lt g2 k2) k3 (k4.trans (by cases i.dst<;>rfl))
theorem nO{Q:Exit→Act→World→Prop}{l:List bh}{e:Env}{h:Heap}{tr:List aG}{e':Env}{h':Heap}(j7:OT P H0 l e h tr e' h')
  {ops:Array Oper}{os:List Oper}(hos:os.map (bw P ops)=l)(hok:cP N l=true){ρ:cn}{D:Dom}{w:World}{a:Act}(hi:Inv P H0 ρ D h w)(he:bz ρ D N e a)
  (hk:∀ρ' w' a',Inv P H0 ρ' (grow D h.next h'.next) h' w'→Ext ρ D h w ρ' h' w'→bz ρ' (grow D h.next h'.next) N e' a'→a'.defers=a.defers→Q .normal a' w'):
  wpListIn (FW ro) n P ops Q os a w:=by
 have:=qh (WE:=[]) (ro:=ro) (n:=n) (Q:=Q) j7 hos hok hi he hk
 rwa [List.append_nil] at this
theorem jI{v:AV}{h2:Heap}{i0:bh}{l2:List bh}{Q:Exit→Act→World→Prop}:∀{l:List bh} {e:Env} {h:Heap} {tr:List aG} {e':Env} {h':Heap},OT P H0 l e h tr e' h'→
  bF i0 e'=true→i0.op≠.bad→mF P H0 i0.op (i0.args.map e'.ev) h' v h2→
  ∀{ops:Array Oper} {os:List Oper},os.map (bw P ops)=l++i0::l2→cP N l=true→∀{ρ:cn} {D:Dom} {w:World} {a:Act},Inv P H0 ρ D h w→bz ρ D N e a→
  (∀ρ' w' a',Inv P H0 ρ' (grow D h.next h2.next) h2 w'→Ext ρ D h w ρ' h2 w'→bz ρ' (grow D h.next h2.next) N e' a'→a'.defers=a.defers→v.aP (grow D h.next h2.next)→Q (.panic [{v:=real ρ' v,recovered:=false}]) a' w')→
  wpListIn (FW ro) n P ops Q os a w
 |[],e,h,tr,e',h',j7,hw0,hb0,Mb,ops,os,hos,hok,ρ,D,w,a,hi,he,hk=>by
  cases tr with
  |cons m tr=>simp[OT] at j7
  |nil=>
   simp only[OT] at j7;obtain⟨rfl,rfl⟩:=j7;cases os with
   |nil=>simp at hos
   |cons o os=>
    simp only[List.map_cons,List.nil_append,List.cons.injEq] at hos;have gT:=dL hos.1 (.inl hb0) he;have hc:=((cw hos.1).2 (.inl hb0)).1;unfold wpListIn;rw[if_pos (by rw[gT,hw0])];refine Mb o i0.args hc ρ D w a N e' ro n hi he rfl _ _ ?_;intro ρ' w' g1 g2 g3;exact hk ρ' w' a g1 g2 (he.mono g2.bp (fun _=>.inl)) rfl g3
 |i::l,e,h,tr,e',h',j7,hw0,hb0,Mb,ops,os,hos,hok,ρ,D,w,a,hi,he,hk=>by
  cases tr with
  |nil=>simp[OT] at j7
  |cons m tr=>
   cases os with
   |nil=>simp at hos
   |cons o os=>
    simp only[List.map_cons,List.cons_append,List.cons.injEq] at hos;simp only[cP,Bool.and_eq_true] at hok;simp only[OT] at j7;obtain⟨BH,yJ,j7⟩:=j7;have lC:=(cw hos.1).1;rcases j7 with⟨dI,hw,hv,kq⟩|⟨dI,hw,h1,hop,kq⟩
    ·have hg:i.guard.isSome=true:=by
      cases hg:i.guard with
      |none=>simp[bF,hg] at hw
      |some _=>rfl
     have gT:=dL hos.1 (.inr hg) he;unfold wpListIn;rw[if_neg (by rw[gT,hw];simp)];refine⟨fun _ _=>trivial,?_⟩;rw[←eY ρ,←lC];exact jI kq hw0 hb0 Mb hos.2 hok.2 hi (he.put hok.1 (by simp[AV.undef,AV.aP,aW])) (fun ρ' w' a' g1 g2 g3 g4 g5=>hk ρ' w' a' g1 g2 g3 (g4.trans (by cases i.dst<;>rfl)) g5)
    ·have hnb:i.op≠.bad:=by
      intro hb;rw[hb] at hop;exact hop
     have gT:=dL hos.1 (.inl hnb) he;have hc:=((cw hos.1).2 (.inl hnb)).1;unfold wpListIn;rw[if_pos (by rw[gT,hw])];refine hop.sem o i.args hc ρ D w a N e ro n hi he yJ.symm _ _ ?_;intro ρ' w' g1 g2 g3;rw[←lC];have he':bz ρ' (grow D h.next h1.next) N (e.put i.dst m.v) (a.put i.dst (real ρ' m.v)):=(he.mono g2.bp (fun _=>.inl)).put hok.1 g3;refine jI kq hw0 hb0 Mb hos.2 hok.2 g1 he' ?_;intro CB w'' QM k1 k2 k3 k4 k5;have GX:=g2.next;have hn2:=k2.next;rw[dh D GX hn2] at k1 k3 k5;exact hk CB w'' QM k1 (Ext.trans hi.lt g2 k2) k3 (k4.trans (by cases i.dst<;>rfl)) k5
theorem qe{l m:List bh}:cP N (l++m)=(cP N l&&cP N m):=by
 induction l with
 |nil=>rfl
 |cons i l ih=>simp only[List.cons_append,cP,ih,Bool.and_assoc]
end
end Ads
end Go.Proofs.Ytecdcefacdodgaa
