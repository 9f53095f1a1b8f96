/-
  What big steps mean in the model: operations, calls, regions in the text's order.
-/
import Derived.Test.YtnlcabhfkpafmaaGreatAdsBig
set_option linter.unusedSimpArgs false
set_option linter.unusedVariables false
namespace Go.Proofs.YtnlcabhfkpafmaaGreat
namespace Ads
def FW(ro:Option Nat):Fence:={Fence.wide with round:=ro}
def marksOf(rs:List Nat):List Deferred:=rs.map fun r=>{target:=.collected r,args:=#[]}
def jC(tl:List Deferred)(W0:Nat)(ρ:cI)(D:Dom)(h:Heap)(w:World)(ds:List Deferred):Prop:=
 ∃rs,ds=marksOf rs++tl∧rs.Nodup∧∀r∈rs,W0≤r∧w.heap[r]?=some (.deferred (some []))∧∀b,D b→h.get b≠none→(ρ b).bJ≠r
section
variable (P:Program) (H0:Nat)
def O8(op:fZ)(vals:List AV)(h:Heap)(v:AV)(h1:Heap):Prop:=
 ∀(o:Oper) (rs:List bE),az P o.op=some (op,rs)→∀(ρ:cI) (D:Dom) (w:World) (a:Act) (N:Nat) (env:Env) (ro:Option Nat) (n:Nat),
  Inv P H0 ρ D h w→bI ρ D N env a→rs.map env.ev=vals→∀(next:Act→World→Prop) (Q:Exit→Act→World→Prop),
  (∀ρ' w',Inv P H0 ρ' (grow D h.next h1.next) h1 w'→Ext ρ D h w ρ' h1 w'→v.aV (grow D h.next h1.next)→next (a.put o.dst (real ρ' v)) w')→
  o.wpIn (FW ro) n P a w next Q
def uS(op:fZ)(vals:List AV)(h:Heap)(v:AV)(h1:Heap):Prop:=
 match op with
 |.p o=>pI o vals=some v∧h1=h
 |.a o=>∃x f,aI o vals=some (x,f)∧v=f h.next∧h1=h.new x
 |.r o=>rI o vals h=some v∧h1=h
 |.bad=>False
 |op=>O8 P H0 op vals h v h1
def OT:List bu→Env→Heap→List aJ→Env→Heap→Prop
 |[],e,h,[],e',h'=>e'=e∧h'=h
 |i::l,e,h,m::tr,e',h'=>m.h=h∧m.vals=i.args.map e.ev∧
   ((m.on=false∧bN i e=false∧m.v=.undef∧OT l (e.put i.dst .undef) h tr e' h')∨
    (m.on=true∧bN i e=true∧∃h1,uS P H0 i.op m.vals h m.v h1∧OT l (e.put i.dst m.v) h1 tr e' h'))
 |_,_,_,_,_,_=>False
def gE(f:Nat)(args:List AV)(h:Heap)(v:AV)(h1:Heap):Prop:=
 ∀(ρ:cI) (D:Dom) (w:World) (n:Nat),Inv P H0 ρ D h w→bh D args→CallsIn Fence.wide n P f (an ρ args).toArray w fun e w'=>
  ∃ρ',e=.returned (real ρ' v)∧Inv P H0 ρ' (grow D h.next h1.next) h1 w'∧Ext ρ D h w ρ' h1 w'∧v.aV (grow D h.next h1.next)
def sw(fv:AV)(args:List AV)(h:Heap)(v:AV)(h1:Heap):Prop:=
 ∀(ρ:cI) (D:Dom) (w:World),Inv P H0 ρ D h w→fv.aV D→bh D args→∀(o:Oper) (a:Act) (ro:Option Nat) (n:Nat) (next:Act→World→Prop) (Q:Exit→Act→World→Prop),
  (∀ρ' w',Inv P H0 ρ' (grow D h.next h1.next) h1 w'→Ext ρ D h w ρ' h1 w'→v.aV (grow D h.next h1.next)→next (a.put o.dst (real ρ' v)) w')→
  o.uponIn (FW ro) n P a next Q ((do let d ←Deferred.ofValue (real ρ fv) (an ρ args).toArray;invoke d.target d.args:Sem Next).run P w)
def HY(ρ:cI)(D:Dom):AX→Exit→Prop
 |.normal,ex=>ex=.normal
 |.exit id,ex=>ex=.exit id
 |.ret,ex=>ex=.ret
 |.panic v,ex=>ex=.panic [{v:=real ρ v,recovered:=false}]∧v.aV D
def mK(nr:Bool)(ds:List Deferred)(tl:List Deferred)(W0:Nat)(ρ:cI)(D:Dom)(h:Heap)(w:World)(N:Nat)(x:AX)(e':Env)(h':Heap):Exit→Act→World→Prop:=fun ex a' w'=>
 ∃ρ',HY ρ' (grow D h.next h'.next) x ex∧Inv P H0 ρ' (grow D h.next h'.next) h' w'∧Ext ρ D h w ρ' h' w'∧bI ρ' (grow D h.next h'.next) N e' a'∧jC tl W0 ρ' (grow D h.next h'.next) h' w' a'.defers∧(nr=true→a'.defers=ds)
def bD(rd:Bool)(c:AC)(e:Env)(h:Heap)(x:AX)(e':Env)(h':Heap):Prop:=
 ∀(code:Code),aB P code=c→∀(N:Nat),codeOk N c=true→∀(ro:Option Nat),ro.isSome=rd→∀(ρ:cI) (D:Dom) (w:World) (a:Act) (W0 n:Nat) (tl:List Deferred),
  Inv P H0 ρ D h w→bI ρ D N e a→jC tl W0 ρ D h w a.defers→W0≤w.heap.size→code.wpIn (FW ro) n P (mK P H0 (aX c) a.defers tl W0 ρ D h w N x e' h') a w
def mY(op:fZ)(vals:List AV)(h:Heap)(v:AV)(h1:Heap):Prop:=
 ∀(o:Oper) (rs:List bE),az P o.op=some (op,rs)→∀(ρ:cI) (D:Dom) (w:World) (a:Act) (N:Nat) (env:Env) (ro:Option Nat) (n:Nat),
  Inv P H0 ρ D h w→bI ρ D N env a→rs.map env.ev=vals→∀(next:Act→World→Prop) (Q:Exit→Act→World→Prop),
  (∀ρ' w',Inv P H0 ρ' (grow D h.next h1.next) h1 w'→Ext ρ D h w ρ' h1 w'→v.aV (grow D h.next h1.next)→Q (.panic [{v:=real ρ' v,recovered:=false}]) a w')→
  o.wpIn (FW ro) n P a w next Q
def m9(f:Nat)(args:List AV)(h:Heap)(v:AV)(h1:Heap):Prop:=
 ∀(ρ:cI) (D:Dom) (w:World) (n:Nat),Inv P H0 ρ D h w→bh D args→CallsIn Fence.wide n P f (an ρ args).toArray w fun e w'=>
  ∃ρ',e=.panicked [{v:=real ρ' v,recovered:=false}]∧Inv P H0 ρ' (grow D h.next h1.next) h1 w'∧Ext ρ D h w ρ' h1 w'∧v.aV (grow D h.next h1.next)
def qj(fv:AV)(args:List AV)(h:Heap)(v:AV)(h1:Heap):Prop:=
 ∀(ρ:cI) (D:Dom) (w:World),Inv P H0 ρ D h w→fv.aV D→bh D args→∀(o:Oper) (a:Act) (ro:Option Nat) (n:Nat) (next:Act→World→Prop) (Q:Exit→Act→World→Prop),
  (∀ρ' w',Inv P H0 ρ' (grow D h.next h1.next) h1 w'→Ext ρ D h w ρ' h1 w'→v.aV (grow D h.next h1.next)→Q (.panic [{v:=real ρ' v,recovered:=false}]) a w')→
  o.uponIn (FW ro) n P a next Q ((do let d ←Deferred.ofValue (real ρ fv) (an ρ args).toArray;invoke d.target d.args:Sem Next).run P w)
def sq(F:Fence)(n:Nat)(P:Program)(c:Code)(Q:Exit→Act→World→Prop)(a:Act)(w:World):Prop:=
 ∀(b:Frame) (k:List Item) (cs:List Frame),b.roundOf=F.round→F.fn b.fn→F.room (cs.length+1+n)→
  ∃e a' w',Q e a' w'∧ArrivesIn (Machine.fenced P F) P (lone (b.atR a (.code c::.inLoop c::k)) cs w) b k cs e a' w'
def mJ(rd:Bool)(c:AC)(e:Env)(h:Heap)(x:AX)(e':Env)(h':Heap):Prop:=
 ∀(code:Code),aB P code=c→∀(N:Nat),codeOk N c=true→∀(ro:Option Nat),ro.isSome=rd→∀(ρ:cI) (D:Dom) (w:World) (a:Act) (W0 n:Nat) (tl:List Deferred),
  Inv P H0 ρ D h w→bI ρ D N e a→jC tl W0 ρ D h w a.defers→W0≤w.heap.size→sq (FW ro) n P code (mK P H0 (aX c) a.defers tl W0 ρ D h w N x e' h') a w
def AN(Q:AX→Env→Heap→Prop)(nr:Bool)(ds:List Deferred)(tl:List Deferred)(W0:Nat)(ρ:cI)(D:Dom)(h:Heap)(w:World)(N:Nat):Exit→Act→World→Prop:=fun ex a' w'=>
 ∃x e' h',Q x e' h'∧mK P H0 nr ds tl W0 ρ D h w N x e' h' ex a' w'
def gF(rd:Bool)(c:AC)(e:Env)(h:Heap)(Q:AX→Env→Heap→Prop):Prop:=
 ∀(code:Code),aB P code=c→∀(N:Nat),codeOk N c=true→∀(ro:Option Nat),ro.isSome=rd→∀(ρ:cI) (D:Dom) (w:World) (a:Act) (W0 n:Nat) (tl:List Deferred),
  Inv P H0 ρ D h w→bI ρ D N e a→jC tl W0 ρ D h w a.defers→W0≤w.heap.size→code.wpIn (FW ro) n P (AN P H0 Q (aX c) a.defers tl W0 ρ D h w N) a w
def sy(rd:Bool)(c:AC)(e:Env)(h:Heap)(Q:AX→Env→Heap→Prop):Prop:=
 ∀(code:Code),aB P code=c→∀(N:Nat),codeOk N c=true→∀(ro:Option Nat),ro.isSome=rd→∀(ρ:cI) (D:Dom) (w:World) (a:Act) (W0 n:Nat) (tl:List Deferred),
  Inv P H0 ρ D h w→bI ρ D N e a→jC tl W0 ρ D h w a.defers→W0≤w.heap.size→sq (FW ro) n P code (AN P H0 Q (aX c) a.defers tl W0 ρ D h w N) a w
def Sound:Task→jj→Prop
 |.code rd c e h,.code x e' h'=>bD P H0 rd c e h x e' h'∧∀c',c=.loop c'→mJ P H0 rd c' e h x e' h'
 |.any rd c e h,.post Q=>gF P H0 rd c e h Q∧∀c',c=.loop c'→sy P H0 rd c' e h Q
 |.ops _ l e h,.ops tr e' h'=>OT P H0 l e h tr e' h'
 |.op _ op vals h,.val v h1=>uS P H0 op vals h v h1
 |.cO fv args h,.val v h1=>sw P H0 fv args h v h1
 |.op _ op vals h,.jT v h1=>op≠.bad∧mY P H0 op vals h v h1
 |.cO fv args h,.jT v h1=>qj P H0 fv args h v h1
 |.call f args h,.jT v h1=>m9 P H0 f args h v h1∧∀(args:Array Value) (w:World),(callFunc f args).run P w=.ok (.enter f args) w
 |.call f args h,.val v h1=>gE P H0 f args h v h1∧∀(args:Array Value) (w:World),(callFunc f args).run P w=.ok (.enter f args) w
 |_,_=>True
end
section
variable {P:Program} {H0 W0:Nat} {ρ ρ':cI} {D D':Dom} {h h' h1:Heap} {w w':World} {N n:Nat} {env e e':Env} {a:Act} {ro:Option Nat}
theorem jC.ext{tl ds:List Deferred}(m:jC tl W0 ρ D h w ds)(hlt:∀b,D b→b<h.next)(x:Ext ρ D h w ρ' h' w'):jC tl W0 ρ' (grow D h.next h'.next) h' w' ds:=by
 obtain⟨rs,h1,h2,h3⟩:=m;refine⟨rs,h1,h2,fun r hr=>?_⟩;obtain⟨g1,g2,g3⟩:=h3 r hr;have hlr:r<w.heap.size:=(Array.getElem?_eq_some_iff.1 g2).1;have iO:∀b,D b→h.wr b=true→(ρ b).bJ≠r:=fun b hd hw=>g3 b hd (Heap.eP hw);refine⟨g1,by rw[x.frame r hlr iO];exact g2,?_⟩;rintro b (hb|⟨qP,iG⟩) hn
 ·rw[x.bA b hb];exact g3 b hb (x.old b (hlt b hb) hn).1
 ·rcases x.fresh b qP iG with hf|⟨b0,hd,hw,heq⟩
  ·omega
  ·rw[←heq];exact iO b0 hd hw
theorem bI.mono(he:bI ρ D N e a)(gG:∀b,D b→ρ' b=ρ b)(hD:∀b,D b→D' b):bI ρ' D' N e a where
 size:=he.size
 get:=fun i=>by rw[cq gG _ (he.dom i)];exact he.get i
 dom:=fun i=>cQ hD _ (he.dom i)
theorem eN(e:Env)(d:Option Nat)(v:AV)(t:Nat):(e.put d v).get t=if d=some t then v else e.get t:=by
 cases d with
 |none=>simp[Env.put]
 |some d=>
  simp only[Env.put,Env.get,Tr.bx,Option.some.injEq];by_cases h:t=d
  ·subst h;simp
  ·rw[if_neg h,if_neg (fun e=>h e.symm)]
theorem bI.put{d:Option Nat}{v:AV}(he:bI ρ D N e a)(hd:vK N d=true)(hv:v.aV D):bI ρ D N (e.put d v) (a.put d (real ρ v)):=by
 cases d with
 |none=>exact he
 |some d=>
  have hlt:d<N:=Nat.le_of_ble_eq_true (show Nat.ble (d+1) N=true from hd);refine⟨by simp[Act.put,he.size],fun i=>?_,fun i=>?_⟩
  ·rw[eN];simp only[Act.put,Option.some.injEq];by_cases h:d=i
   ·subst h;simp[Array.getD_eq_getD_getElem?,he.size,hlt]
   ·rw[if_neg h,←he.get i];simp[Array.getD_eq_getD_getElem?,Array.getElem?_setIfInBounds_ne h]
  ·rw[eN];split
   ·exact hv
   ·exact he.dom i
theorem fW(ρ:cI):real ρ .undef=Go.undef:=by simp[AV.undef,real,an,Go.undef]
theorem cP{ops:Array Oper}{o:Oper}{i:bu}(h:bF P ops o=i):i.dst=o.dst∧
  (i.op≠.bad∨i.guard.isSome=true→az P o.op=some (i.op,i.args)∧(match o.guard with
   |none=>i.guard=none
   |some (j,want)=>∃d,(ops[j]?).bind (·.dst)=some d∧i.guard=some (d,want))):=by
 unfold bF at h;simp only at h;split at h
 ·rename_i g op as hg hc;subst h;refine⟨rfl,fun _=>⟨hc,?_⟩⟩;cases ho:o.guard with
  |none=>simp[ho] at hg;simp[hg]
  |some jw=>
   obtain⟨j,want⟩:=jw;simp only[ho] at hg;split at hg
   ·rename_i d hd;simp only[Option.some.injEq] at hg;exact⟨d,hd,hg.symm⟩
   ·simp at hg
 ·subst h;exact⟨rfl,fun hh=>by simp at hh⟩
theorem ez{ops:Array Oper}{o:Oper}{i:bu}(hc:bF P ops o=i)(hi:i.op≠.bad∨i.guard.isSome=true)(he:bI ρ D N e a):
  Region.wanted o (yielded ops a.tmps)=bN i e:=by
 have hinv:=((cP hc).2 hi).2;unfold Region.wanted bN;cases ho:o.guard with
 |none=>
  rw[ho] at hinv;rw[hinv]
 |some jw=>
  obtain⟨j,want⟩:=jw;rw[ho] at hinv;obtain⟨d,hd,hg⟩:=hinv;rw[hg];simp only[yielded,hd,Option.bind_some];have cu:=he.get d;rw[Array.getD_eq_getD_getElem?] at cu;cases hx:e.get d<;>rw[hx] at cu<;>simp only[real] at cu<;>cases ht:a.tmps[d]?<;>simp[ht,Go.undef] at cu<;>first|(subst cu;simp)|skip
  all_goals (try rfl)
  all_goals simp_all
theorem w6{o:Oper}{op:fZ}{rs:List bE}(hc:az P o.op=some (op,rs))(Lk:Operand→Value):Oper.semAt ro Lk o=execOp Lk o:=by
 refine Oper.semAt_eq ro Lk o ?_;intro c hd;rw[hd] at hc;simp[az] at hc
theorem gH{o:Oper}{op:fZ}{rs:List bE}{next:Act→World→Prop}{Q:Exit→Act→World→Prop}(hc:az P o.op=some (op,rs))
  (h:o.uponIn (FW ro) n P a next Q ((execOp a.eval o).run P w)):o.wpIn (FW ro) n P a w next Q:=by
 refine⟨fun _ _=>trivial,?_⟩;show o.uponIn (FW ro) n P a next Q ((Oper.semAt ro a.eval o).run P w)
 rw[w6 hc];exact h
theorem uS.sem{op:fZ}{vals:List AV}{v:AV}{h0:Heap}(h:uS P H0 op vals h0 v h1):O8 P H0 op vals h0 v h1:=by
 cases op with
 |p o=>
  obtain⟨hp,rfl⟩:=h;intro o' rs hc ρ D w a N env ro n hi he hv next Q hk
  subst hv;have:=wL (w:=w) he hc hp;refine gH hc ?_;rw[this.1];exact hk ρ w (by rw[bn];exact hi) (Ext.refl _ _ _ _) (by rw[bn];exact this.2)
 |a o=>
  obtain⟨x,f,hp,rfl,rfl⟩:=h;intro o' rs hc ρ D w a N env ro n hi he hv next Q hk
  subst hv;obtain⟨obj,hrun,z7,hf⟩:=AO (H0:=H0) (w:=w) he hc hp;refine gH hc ?_;have hst:=p9 (w':=w.alloc obj) hi x 0 obj rfl rfl rfl rfl (z7 _ _ (fun _=>.inl) (fun b hb=>j9 _ _ (by have:=hi.lt b hb;omega)) hi.low);rw[hrun h0.next (iA ρ h0.next ⟨w.heap.size,0,0⟩) (bM _ _ _)];exact hk _ _ hst.1 hst.2 (hf _ _ (.inr ⟨Nat.le_refl _,by simp⟩))
 |r o=>
  obtain⟨hp,rfl⟩:=h;intro o' rs hc ρ D w a N env ro n hi he hv next Q hk
  subst hv;have:=Ce he hi hc hp;refine gH hc ?_;rw[this.1];exact hk ρ w (by rw[bn];exact hi) (Ext.refl _ _ _ _) (by rw[bn];exact this.2)
 |bad=>exact absurd h (by simp[uS])
 |e o=>exact h
 |call=>exact h
 |invoke s=>exact h
 |panic=>exact h
theorem Oi{o:xB}{vals:List AV}{v:AV}(hv:eI o vals h=some (v,h1)):uS P H0 (.e o) vals h v h1:=by
 intro o' rs hc ρ D w a N env ro n hi he ny next Q hk
 subst ny;obtain⟨ρ',w',hrun,hinv,mZ,hd⟩:=IJ he hi hc hv;refine gH hc ?_;rcases hrun with hrun|⟨hrun,rfl⟩
 ·rw[hrun];exact hk ρ' w' hinv mZ hd
 ·rw[hrun];have:=hk ρ' w' hinv mZ hd;rw[fW] at this;exact this
theorem Oj{o:xB}{vals:List AV}{v:AV}(hv:eK o vals h=some (v,h1)):uS P H0 (.e o) vals h v h1:=by
 intro o' rs hc ρ D w a N env ro n hi he ny next Q hk
 subst ny;obtain⟨ρ',w',hrun,hinv,mZ,hd⟩:=IK he hi hc hv;refine gH hc ?_;rcases hrun with hrun|⟨hrun,rfl⟩
 ·rw[hrun];exact hk ρ' w' hinv mZ hd
 ·rw[hrun];have:=hk ρ' w' hinv mZ hd;rw[fW] at this;exact this
theorem qF{os2:List Oper}{Q:Exit→Act→World→Prop}:∀{l:List bu} {e:Env} {h:Heap} {tr:List aJ} {e':Env} {h':Heap},OT P H0 l e h tr e' h'→
  ∀{ops:Array Oper} {os:List Oper},os.map (bF P ops)=l→de N l=true→∀{ρ:cI} {D:Dom} {w:World} {a:Act},Inv P H0 ρ D h w→bI ρ D N e a→
  (∀ρ' w' a',Inv P H0 ρ' (grow D h.next h'.next) h' w'→Ext ρ D h w ρ' h' w'→bI ρ' (grow D h.next h'.next) N e' a'→a'.defers=a.defers→wpListIn (FW ro) n P ops Q os2 a' w')→
  wpListIn (FW ro) n P ops Q (os++os2) a w
 |[],e,h,tr,e',h',kN,ops,os,hos,hok,ρ,D,w,a,hi,he,hk=>by
  cases tr with
  |cons m tr=>simp[OT] at kN
  |nil=>
   simp only[OT] at kN;obtain⟨rfl,rfl⟩:=kN;have:os=[]:=by simpa using hos
   subst this;exact hk ρ w a (by rw[bn];exact hi) (Ext.refl _ _ _ _) (by rw[bn];exact he) rfl
 |i::l,e,h,tr,e',h',kN,ops,os,hos,hok,ρ,D,w,a,hi,he,hk=>by
  cases tr with
  |nil=>simp[OT] at kN
  |cons m tr=>
   cases os with
   |nil=>simp at hos
   |cons o os=>
    simp only[List.map_cons,List.cons.injEq] at hos;simp only[de,Bool.and_eq_true] at hok;simp only[OT] at kN;obtain⟨BG,yM,kN⟩:=kN;have l8:=(cP hos.1).1;rcases kN with⟨fI,hw,hv,kW⟩|⟨fI,hw,h1,hop,kW⟩
    ·
     have hg:i.guard.isSome=true:=by
      cases hg:i.guard with
      |none=>simp[bN,hg] at hw
      |some _=>rfl
     have iO:=ez hos.1 (.inr hg) he;rw[List.cons_append];unfold wpListIn;rw[if_neg (by rw[iO,hw];simp)];refine⟨fun _ _=>trivial,?_⟩;rw[←fW ρ,←l8];exact qF kW hos.2 hok.2 hi (he.put hok.1 (by simp[AV.undef,AV.aV,bh])) (fun ρ' w' a' g1 g2 g3 g4=>hk ρ' w' a' g1 g2 g3 (g4.trans (by cases i.dst<;>rfl)))
    ·have hnb:i.op≠.bad:=by
      intro hb;rw[hb] at hop;exact hop
     have iO:=ez hos.1 (.inl hnb) he;have hc:=((cP hos.1).2 (.inl hnb)).1;rw[List.cons_append];unfold wpListIn;rw[if_pos (by rw[iO,hw])];refine hop.sem o i.args hc ρ D w a N e ro n hi he yM.symm _ _ ?_;intro ρ' w' g1 g2 g3;rw[←l8];have he':bI ρ' (grow D h.next h1.next) N (e.put i.dst m.v) (a.put i.dst (real ρ' m.v)):=(he.mono g2.bA (fun _=>.inl)).put hok.1 g3;refine qF kW hos.2 hok.2 g1 he' ?_;intro Cw w'' TF k1 k2 k3 k4;have Rc:=g2.next;have hn2:=k2.next;rw[dN D Rc hn2] at k1 k3;exact hk Cw w'' TF k1 (Ext.trans hi.lt g2 k2) k3 (k4.trans (by cases i.dst<;>rfl))
theorem ox{Q:Exit→Act→World→Prop}{l:List bu}{e:Env}{h:Heap}{tr:List aJ}{e':Env}{h':Heap}(kN:OT P H0 l e h tr e' h')
  {ops:Array Oper}{os:List Oper}(hos:os.map (bF P ops)=l)(hok:de N l=true){ρ:cI}{D:Dom}{w:World}{a:Act}(hi:Inv P H0 ρ D h w)(he:bI ρ D N e a)
  (hk:∀ρ' w' a',Inv P H0 ρ' (grow D h.next h'.next) h' w'→Ext ρ D h w ρ' h' w'→bI ρ' (grow D h.next h'.next) N e' a'→a'.defers=a.defers→Q .normal a' w'):
  wpListIn (FW ro) n P ops Q os a w:=by
 have:=qF (os2:=[]) (ro:=ro) (n:=n) (Q:=Q) kN hos hok hi he hk
 rwa [List.append_nil] at this
theorem kg{v:AV}{h2:Heap}{i0:bu}{l2:List bu}{Q:Exit→Act→World→Prop}:∀{l:List bu} {e:Env} {h:Heap} {tr:List aJ} {e':Env} {h':Heap},OT P H0 l e h tr e' h'→
  bN i0 e'=true→i0.op≠.bad→mY P H0 i0.op (i0.args.map e'.ev) h' v h2→
  ∀{ops:Array Oper} {os:List Oper},os.map (bF P ops)=l++i0::l2→de N l=true→∀{ρ:cI} {D:Dom} {w:World} {a:Act},Inv P H0 ρ D h w→bI ρ D N e a→
  (∀ρ' w' a',Inv P H0 ρ' (grow D h.next h2.next) h2 w'→Ext ρ D h w ρ' h2 w'→bI ρ' (grow D h.next h2.next) N e' a'→a'.defers=a.defers→v.aV (grow D h.next h2.next)→Q (.panic [{v:=real ρ' v,recovered:=false}]) a' w')→
  wpListIn (FW ro) n P ops Q os a w
 |[],e,h,tr,e',h',kN,hw0,hb0,NG,ops,os,hos,hok,ρ,D,w,a,hi,he,hk=>by
  cases tr with
  |cons m tr=>simp[OT] at kN
  |nil=>
   simp only[OT] at kN;obtain⟨rfl,rfl⟩:=kN;cases os with
   |nil=>simp at hos
   |cons o os=>
    simp only[List.map_cons,List.nil_append,List.cons.injEq] at hos;have iO:=ez hos.1 (.inl hb0) he;have hc:=((cP hos.1).2 (.inl hb0)).1;unfold wpListIn;rw[if_pos (by rw[iO,hw0])];refine NG o i0.args hc ρ D w a N e' ro n hi he rfl _ _ ?_;intro ρ' w' g1 g2 g3;exact hk ρ' w' a g1 g2 (he.mono g2.bA (fun _=>.inl)) rfl g3
 |i::l,e,h,tr,e',h',kN,hw0,hb0,NG,ops,os,hos,hok,ρ,D,w,a,hi,he,hk=>by
  cases tr with
  |nil=>simp[OT] at kN
  |cons m tr=>
   cases os with
   |nil=>simp at hos
   |cons o os=>
    simp only[List.map_cons,List.cons_append,List.cons.injEq] at hos;simp only[de,Bool.and_eq_true] at hok;simp only[OT] at kN;obtain⟨BG,yM,kN⟩:=kN;have l8:=(cP hos.1).1;rcases kN with⟨fI,hw,hv,kW⟩|⟨fI,hw,h1,hop,kW⟩
    ·have hg:i.guard.isSome=true:=by
      cases hg:i.guard with
      |none=>simp[bN,hg] at hw
      |some _=>rfl
     have iO:=ez hos.1 (.inr hg) he;unfold wpListIn;rw[if_neg (by rw[iO,hw];simp)];refine⟨fun _ _=>trivial,?_⟩;rw[←fW ρ,←l8];exact kg kW hw0 hb0 NG hos.2 hok.2 hi (he.put hok.1 (by simp[AV.undef,AV.aV,bh])) (fun ρ' w' a' g1 g2 g3 g4 g5=>hk ρ' w' a' g1 g2 g3 (g4.trans (by cases i.dst<;>rfl)) g5)
    ·have hnb:i.op≠.bad:=by
      intro hb;rw[hb] at hop;exact hop
     have iO:=ez hos.1 (.inl hnb) he;have hc:=((cP hos.1).2 (.inl hnb)).1;unfold wpListIn;rw[if_pos (by rw[iO,hw])];refine hop.sem o i.args hc ρ D w a N e ro n hi he yM.symm _ _ ?_;intro ρ' w' g1 g2 g3;rw[←l8];have he':bI ρ' (grow D h.next h1.next) N (e.put i.dst m.v) (a.put i.dst (real ρ' m.v)):=(he.mono g2.bA (fun _=>.inl)).put hok.1 g3;refine kg kW hw0 hb0 NG hos.2 hok.2 g1 he' ?_;intro Cw w'' TF k1 k2 k3 k4 k5;have Rc:=g2.next;have hn2:=k2.next;rw[dN D Rc hn2] at k1 k3 k5;exact hk Cw w'' TF k1 (Ext.trans hi.lt g2 k2) k3 (k4.trans (by cases i.dst<;>rfl)) k5
theorem qD{l m:List bu}:de N (l++m)=(de N l&&de N m):=by
 induction l with
 |nil=>rfl
 |cons i l ih=>simp only[List.cons_append,de,ih,Bool.and_assoc]
end
end Ads
end Go.Proofs.YtnlcabhfkpafmaaGreat
