/-
  The big steps of Ads; what they mean in the model.
-/
import Derived.Test.YtecdcefacdodgaaAdsMemX
import Derived.RangeFuncLeaves
import Derived.TacticsIn
import Derived.OrdersIn
set_option linter.unusedSimpArgs false
set_option linter.unusedVariables false
namespace Go.Proofs.Ytecdcefacdodgaa
namespace Ads
structure aG where
 h:Heap
 vals:List AV
 v:AV
 on:Bool
def bF(i:bh)(e:Env):Bool:=
 match i.guard with
 |none=>true
 |some (d,want)=>match e.get d with
  |.bool b=>b==want
  |_=>false
def dA:List aG→Heap→Heap
 |[],h=>h
 |m::_,_=>m.h
def dm(x:bh)(m:aG):Option ck:=
 match x.op,m.on with
 |.a o,true=>(aI o m.vals).map (·.1)
 |_,_=>none
def eW:List bh→List aG→Tr ck→Tr ck
 |x::l,m::tr,t=>match dm x m with
  |some b=>eW l tr (t.set m.h.next b)
  |none=>eW l tr t
 |_,_,t=>t
def cg(l:List bh)(tr:List aG)(h':Heap)(c:Nat):Heap:=
 ⟨h'.next,eW (l.drop c) (tr.drop c) (dA (tr.drop c) h').m⟩
def b8(u:Nat→Heap):List bh→List (List Nat)→List aG→Prop
 |x::l,cs::win,m::tr=>(match x.op with
   |.r o=>m.on=true→∀c∈cs,rI o m.vals (u c)=some m.v
   |_=>True)∧b8 u l win tr
 |_,_,_=>True
def lO(l:List bh)(win:List (List Nat))(tr:List aG)(h':Heap):Prop:=
 b8 (cg l tr h') l win tr
def wK(e:Env)(h:Heap):qP→Option AV
 |.tmp t=>some (e.get t)
 |.cell a n g=>match e.get a with
  |.ptr b o=>cond g ((h.bI b o n).map .agg) (h.c8 b o)
  |_=>none
def fE(e:Env)(h:Heap):List qP→Option (List AV)
 |[]=>some []
 |r::rs=>match wK e h r,fE e h rs with
  |some v,some vs=>some (v::vs)
  |_,_=>none
def cI:List AV→AV
 |[v]=>v
 |vs=>.cC vs
def eX:List Nat→List AV→Env→Env
 |t::ts,v::vs,e=>eX ts vs (Tr.set e t v)
 |_,_,e=>e
def AX.bx:AX→Bool
 |.normal=>true
 |_=>false
def dn:AX→Option AX
 |.normal=>none
 |x=>some x
def nR:AX→AV
 |.panic v=>v
 |_=>.iQ
def lN:List bh→Bool
 |[]=>true
 |i::l=>(match i.op,i.guard with
  |.p _,none=>true
  |_,_=>false)&&lN l
def sw(h g g':Heap):Nat→Tr ck
 |0=>h.m
 |n+1=>if(g.get n).isSome=true∨h.next≤n then Tr.put (g'.get n) (n+1) (sw h g g' n) n else sw h g g' n
def m8(h g g':Heap):Heap:=⟨g'.next,sw h g g' g'.next⟩
def mS(g h:Heap):Prop:=g.next=h.next∧∀b x,g.get b=some x→h.get b=some x
inductive Task where
 |code (rd:Bool) (c:AC) (e:Env) (h:Heap)
 |ops (rd:Bool) (l:List bh) (e:Env) (h:Heap)
 |op (rd:Bool) (o:fh) (vals:List AV) (h:Heap)
 |cu (fv:AV) (args:List AV) (h:Heap)
 |call (f:Nat) (args:List AV) (h:Heap)
 |any (rd:Bool) (c:AC) (e:Env) (h:Heap)
def Ek(id:Nat):AX→AX
 |.exit i=>if i=id then .normal else .exit i
 |x=>x
inductive iw where
 |code (x:AX) (e:Env) (h:Heap)
 |ops (tr:List aG) (e:Env) (h:Heap)
 |val (v:AV) (h:Heap)
 |jm (v:AV) (h:Heap)
 |post (Q:AX→Env→Heap→Prop)
inductive BS(fs:Nat→Option az)(ms:Nat→String→Option Nat):Task→iw→Prop where
 |skip {rd e h}:BS fs ms (.code rd .skip e h) (.code .normal e h)
 |ops {rd l e h tr e' h'}:BS fs ms (.ops rd l e h) (.ops tr e' h')→BS fs ms (.code rd (.ops l) e h) (.code .normal e' h')
 |cm {rd l win e h tr e' h'}:BS fs ms (.ops rd l e h) (.ops tr e' h')→lO l win tr h'→BS fs ms (.code rd (.cm l win) e h) (.code .normal e' h')
 |xX {rd a b e h e1 h1 r}:BS fs ms (.code rd a e h) (.code .normal e1 h1)→BS fs ms (.code rd b e1 h1) r→BS fs ms (.code rd (.seq a b) e h) r
 |ou {rd a b e h x e1 h1}:BS fs ms (.code rd a e h) (.code x e1 h1)→x.bx=false→BS fs ms (.code rd (.seq a b) e h) (.code x e1 h1)
 |cond {rd c a b e h t r}:e.ev c=.bool t→BS fs ms (.code rd (bif t then a else b) e h) r→BS fs ms (.code rd (.cond c a b) e h) r
 |nD {rd id c e h e1 h1}:BS fs ms (.code rd c e h) (.code (.exit id) e1 h1)→BS fs ms (.code rd (.block id c) e h) (.code .normal e1 h1)
 |eO {rd id c e h x e1 h1}:BS fs ms (.code rd c e h) (.code x e1 h1)→(∀i,x=.exit i→i≠id)→BS fs ms (.code rd (.block id c) e h) (.code x e1 h1)
 |mo {rd c e h e1 h1 r}:BS fs ms (.code rd c e h) (.code .normal e1 h1)→BS fs ms (.code rd (.loop c) e1 h1) r→BS fs ms (.code rd (.loop c) e h) r
 |c9 {rd c e h x e1 h1}:BS fs ms (.code rd c e h) (.code x e1 h1)→x.bx=false→BS fs ms (.code rd (.loop c) e h) (.code x e1 h1)
 |exit {rd id e h}:BS fs ms (.code rd (.exit id) e h) (.code (.exit id) e h)
 |ret {rd e h}:BS fs ms (.code rd .ret e h) (.code .ret e h)
 |rangeFunc {g ps a b e h f first aF v h2 st x}:Env.ev e g=AV.func (.func f) first aF→
   BS fs ms (.call f (first++(.yield h.next::aF)) (h.new (.loop 0 none e ps a b))) (.val v h2)→
   h2.get h.next=some (.loop st (dn x) e ps a b)→st≠1→(∀v,x≠.panic v)→
   BS fs ms (.code false (.rangeFunc g ps a b) e h) (.code x e (h2.set h.next (.loop 3 (dn x) e ps a b)))
 |nil {rd e h}:BS fs ms (.ops rd [] e h) (.ops [] e h)
 |off {rd i l e h tr e' h'}:bF i e=false→BS fs ms (.ops rd l (e.put i.dst .undef) h) (.ops tr e' h')→BS fs ms (.ops rd (i::l) e h) (.ops (⟨h,i.args.map e.ev,.undef,false⟩::tr) e' h')
 |on {rd i l e h v h1 tr e' h'}:bF i e=true→BS fs ms (.op rd i.op (i.args.map e.ev) h) (.val v h1)→BS fs ms (.ops rd l (e.put i.dst v) h1) (.ops tr e' h')→
   BS fs ms (.ops rd (i::l) e h) (.ops (⟨h,i.args.map e.ev,v,true⟩::tr) e' h')
 |CN {rd o vals h v}:pI o vals=some v→BS fs ms (.op rd (.p o) vals h) (.val v h)
 |ME {rd o vals h x f}:aI o vals=some (x,f)→BS fs ms (.op rd (.a o) vals h) (.val (f h.next) (h.new x))
 |Fa {rd o vals h v}:rI o vals h=some v→BS fs ms (.op rd (.r o) vals h) (.val v h)
 |KE {rd o vals h v h1}:eI o vals h=some (v,h1)→BS fs ms (.op rd (.e o) vals h) (.val v h1)
 |SI {rd o vals h v h1}:eK o vals h=some (v,h1)→BS fs ms (.op rd (.e o) vals h) (.val v h1)
 |lI {rd fv args h v h1}:BS fs ms (.cu fv args h) (.val v h1)→BS fs ms (.op rd .call (fv::args) h) (.val v h1)
 |jU {rd name t x args h f v h1}:ms t name=some f→BS fs ms (.call f (x::args) h) (.val v h1)→BS fs ms (.op rd (.invoke name) (.iface t x::args) h) (.val v h1)
 |cu {f first aF args h v h1}:BS fs ms (.call f (first++(args++aF)) h) (.val v h1)→BS fs ms (.cu (.func (.func f) first aF) args h) (.val v h1)
 |yield {L args h bD e ps a b e2 h2 bZ x e4 h4 J8 o7}:h.get L=some (.loop 0 bD e ps a b)→args.length=ps.length→
   BS fs ms (.code true a (eX ps args e) h) (.code .normal e2 h2)→h2.get L=some (.loop 0 bZ e ps a b)→
   BS fs ms (.code true b e2 (h2.set L (.loop 1 bZ e ps a b))) (.code x e4 h4)→(∀v,x≠.panic v)→h4.get L=some (.loop J8 o7 e ps a b)→
   BS fs ms (.cu (.yield L) args h) (.val (.bool x.bx) (h4.set L (.loop (bif x.bx then 0 else 2) (dn x) e ps a b)))
 |call {f args h af x e h1 vs}:fs f=some af→args.length≤af.ntmps→BS fs ms (.code false af.body (Env.start af.ntmps args) h) (.code x e h1)→(x=.normal∨x=.ret)→fE e h1 af.results=some vs→
   BS fs ms (.call f args h) (.val (cI vs) h1)
 |Gm {rd l1 i l2 e h tr e1 h1 v h2}:BS fs ms (.ops rd l1 e h) (.ops tr e1 h1)→bF i e1=true→BS fs ms (.op rd i.op (i.args.map e1.ev) h1) (.jm v h2)→BS fs ms (.code rd (.ops (l1++i::l2)) e h) (.code (.panic v) e1 h2)
 |yp {rd l1 i win e h tr e1 h1 v h2}:BS fs ms (.ops rd l1 e h) (.ops tr e1 h1)→lO l1 (win.take l1.length) tr h1→nJ (l1++[i])=true→bH i.op=true→bF i e1=true→BS fs ms (.op rd i.op (i.args.map e1.ev) h1) (.jm v h2)→
   BS fs ms (.code rd (.cm (l1++[i]) win) e h) (.code (.panic v) e1 h2)
 |qc {rd t x h}:BS fs ms (.op rd .panic [.iface t x] h) (.jm (.iface t x) h)
 |nL {rd fv args h v h1}:BS fs ms (.cu fv args h) (.jm v h1)→BS fs ms (.op rd .call (fv::args) h) (.jm v h1)
 |kP {rd name t x args h f v h1}:ms t name=some f→BS fs ms (.call f (x::args) h) (.jm v h1)→BS fs ms (.op rd (.invoke name) (.iface t x::args) h) (.jm v h1)
 |oE {f first aF args h v h1}:BS fs ms (.call f (first++(args++aF)) h) (.jm v h1)→BS fs ms (.cu (.func (.func f) first aF) args h) (.jm v h1)
 |vr {f args h af v e h1}:fs f=some af→args.length≤af.ntmps→BS fs ms (.code false af.body (Env.start af.ntmps args) h) (.code (.panic v) e h1)→BS fs ms (.call f args h) (.jm v h1)
 |tY {f args h af A l1 dst r rest e1 h1 tr e2 h2 g first aF x e3 h3 ag t l2 dS KG e4 y e5 h5 vs}:fs f=some af→args.length≤af.ntmps→af.body=.seq A (.seq (.ops (l1++[oI dst r])) rest)→
   BS fs ms (.code false A (Env.start af.ntmps args) h) (.code .normal e1 h1)→aR A=true→BS fs ms (.ops false l1 e1 h1) (.ops tr e2 h2)→e2.ev r=.func (.func g) first aF→
   BS fs ms (.code false rest (e2.put dst .undef) h2) (.code x e3 h3)→(x=.normal∨x=.ret∨∃v,x=.panic v)→
   fs g=some ag→(first++aF).length≤ag.ntmps→ag.body=.seq (.ops (xW t::l2)) dS→ag.results=[]→aR dS=true→
   BS fs ms (.ops false l2 ((Env.start ag.ntmps (first++aF)).put (some t) (nR x)) h3) (.ops KG e4 h3)→lN l2=true→BS fs ms (.code false dS e4 h3) (.code y e5 h5)→(y=.normal∨y=.ret)→
   fE e3 h5 af.results=some vs→BS fs ms (.call f args h) (.val (cI vs) h5)
 |jz {g ps a b e h f first aF v h2}:Env.ev e g=AV.func (.func f) first aF→BS fs ms (.call f (first++(.yield h.next::aF)) (h.new (.loop 0 none e ps a b))) (.jm v h2)→BS fs ms (.code false (.rangeFunc g ps a b) e h) (.code (.panic v) e h2)
 |pN {L args h bD e ps a id A l1 i l2 e2 h2 bZ e3 h3 tr e4 h4 v h5}:h.get L=some (.loop 0 bD e ps a (.block id (.seq A (.ops (l1++i::l2)))))→args.length=ps.length→
   BS fs ms (.code true a (eX ps args e) h) (.code .normal e2 h2)→aR a=true→h2.get L=some (.loop 0 bZ e ps a (.block id (.seq A (.ops (l1++i::l2)))))→aR A=true→
   BS fs ms (.code true A e2 (h2.set L (.loop 1 bZ e ps a (.block id (.seq A (.ops (l1++i::l2))))))) (.code .normal e3 h3)→BS fs ms (.ops true l1 e3 h3) (.ops tr e4 h4)→bF i e4=true→
   BS fs ms (.op true i.op (i.args.map e4.ev) h4) (.jm v h5)→BS fs ms (.cu (.yield L) args h) (.jm v h5)
 |forget {f args h v H h2}:mS h2 H→(∀b,b<h.next→h.get b≠none→h2.get b=H.get b)→BS fs ms (.call f args h) (.val v H)→BS fs ms (.call f args h) (.val v h2)
 |Dg {f args h g v u h2}:mS g h→BS fs ms (.call f args g) (.val v u)→h2.next=u.next→(∀b,b<h.next→h2.get b=if(g.get b).isSome=true then u.get b else h.get b)→
   (∀b,h.next≤b→h.get b=none→h2.get b=if b<u.next then u.get b else none)→BS fs ms (.call f args h) (.val v h2)
 |fresh {f args h v h1}:BS fs ms (.call f args ⟨0,.nil⟩) (.val v h1)→aW (fun _=>False) args→v.aP (fun _=>False)→BS fs ms (.call f args h) (.val v h)
 |Hp {rd c e h x e' h' Q}:BS fs ms (.code rd c e h) (.code x e' h')→Q x e' h'→BS fs ms (.any rd c e h) (.post Q)
 |Hq {rd a b e h R Q}:BS fs ms (.any rd a e h) (.post R)→(∀x e1 h1,R x e1 h1→x.bx=false→Q x e1 h1)→(∀e1 h1,R .normal e1 h1→BS fs ms (.any rd b e1 h1) (.post Q))→BS fs ms (.any rd (.seq a b) e h) (.post Q)
 |Es {rd c a b e h t Q}:e.ev c=.bool t→BS fs ms (.any rd (bif t then a else b) e h) (.post Q)→BS fs ms (.any rd (.cond c a b) e h) (.post Q)
 |AM {rd id c e h R Q}:BS fs ms (.any rd c e h) (.post R)→(∀x e1 h1,R x e1 h1→Q (Ek id x) e1 h1)→BS fs ms (.any rd (.block id c) e h) (.post Q)
 |Et {rd c e h R Q}:BS fs ms (.any rd c e h) (.post R)→(∀x e1 h1,R x e1 h1→x.bx=false→Q x e1 h1)→(∀e1 h1,R .normal e1 h1→BS fs ms (.any rd (.loop c) e1 h1) (.post Q))→BS fs ms (.any rd (.loop c) e h) (.post Q)
 |Eu {rd dst args l e h cs Q} (T:AV×Heap→List aG) (E:AV×Heap→Env) (H:AV×Heap→Heap):qM (args.map e.ev) h=some cs→cs≠[]→
   (∀p∈cs,BS fs ms (.ops rd l (e.put dst p.1) p.2) (.ops (T p) (E p) (H p)))→(∀p∈cs,Q .normal (E p) (H p))→BS fs ms (.any rd (.ops (⟨dst,none,.e .next,args⟩::l)) e h) (.post Q)
 |zy {f args h af v h2 Q}:fs f=some af→args.length≤af.ntmps→BS fs ms (.any false af.body (Env.start af.ntmps args) h) (.post Q)→
   (∀x e h1,Q x e h1→(x=.normal∨x=.ret)∧(∃vs,fE e h1 af.results=some vs∧cI vs=v)∧mS h2 h1∧∀b,b<h.next→h.get b≠none→h2.get b=h1.get b)→BS fs ms (.call f args h) (.val v h2)
end Ads
end Go.Proofs.Ytecdcefacdodgaa
