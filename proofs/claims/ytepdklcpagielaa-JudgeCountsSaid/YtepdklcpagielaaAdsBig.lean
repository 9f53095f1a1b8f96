/-
  The big steps of Ads; what they mean in the model.
-/
import Derived.Test.YtepdklcpagielaaAdsMemX
import Derived.RangeFuncLeaves
import Derived.TacticsIn
import Derived.OrdersIn
set_option linter.unusedSimpArgs false
set_option linter.unusedVariables false
namespace Go.Proofs.Ytepdklcpagielaa
namespace Ads
structure aQ where
 h:Heap
 vals:List AV
 v:AV
 on:Bool
def cz(i:bK)(e:Env):Bool:=
 match i.guard with
 |none=>true
 |some (d,want)=>match e.get d with
  |.bool b=>b==want
  |_=>false
def eO:List aQ→Heap→Heap
 |[],h=>h
 |m::_,_=>m.h
def eH(x:bK)(m:aQ):Option dm:=
 match x.op,m.on with
 |.a o,true=>(aI o m.vals).map (·.1)
 |_,_=>none
def fJ:List bK→List aQ→Tr dm→Tr dm
 |x::l,m::tr,t=>match eH x m with
  |some b=>fJ l tr (t.set m.h.next b)
  |none=>fJ l tr t
 |_,_,t=>t
def cY(l:List bK)(tr:List aQ)(h':Heap)(c:Nat):Heap:=
 ⟨h'.next,fJ (l.drop c) (tr.drop c) (eO (tr.drop c) h').m⟩
def cW(u:Nat→Heap):List bK→List (List Nat)→List aQ→Prop
 |x::l,cs::win,m::tr=>(match x.op with
   |.r o=>m.on=true→∀c∈cs,rI o m.vals (u c)=some m.v
   |_=>True)∧cW u l win tr
 |_,_,_=>True
def nR(l:List bK)(win:List (List Nat))(tr:List aQ)(h':Heap):Prop:=
 cW (cY l tr h') l win tr
def zy(e:Env)(h:Heap):tF→Option AV
 |.tmp t=>some (e.get t)
 |.cell a n g=>match e.get a with
  |.ptr b o=>cond g ((h.bn b o n).map .agg) (h.bC b o)
  |_=>none
def iu(e:Env)(h:Heap):List tF→Option (List AV)
 |[]=>some []
 |r::rs=>match zy e h r,iu e h rs with
  |some v,some vs=>some (v::vs)
  |_,_=>none
def dz:List AV→AV
 |[v]=>v
 |vs=>.cQ vs
def gL:List Nat→List AV→Env→Env
 |t::ts,v::vs,e=>gL ts vs (Tr.set e t v)
 |_,_,e=>e
def AX.bZ:AX→Bool
 |.normal=>true
 |_=>false
def eJ:AX→Option AX
 |.normal=>none
 |x=>some x
def oQ:AX→AV
 |.panic v=>v
 |_=>.kr
def mH:List bK→Bool
 |[]=>true
 |i::l=>(match i.op,i.guard with
  |.p _,none=>true
  |_,_=>false)&&mH l
def vv(h g g':Heap):Nat→Tr dm
 |0=>h.m
 |n+1=>if(g.get n).isSome=true∨h.next≤n then Tr.put (g'.get n) (n+1) (vv h g g' n) n else vv h g g' n
def pL(h g g':Heap):Heap:=⟨g'.next,vv h g g' g'.next⟩
def oW(g h:Heap):Prop:=g.next=h.next∧∀b x,g.get b=some x→h.get b=some x
inductive Task where
 |code (rd:Bool) (c:AC) (e:Env) (h:Heap)
 |ops (rd:Bool) (l:List bK) (e:Env) (h:Heap)
 |op (rd:Bool) (o:gP) (vals:List AV) (h:Heap)
 |dw (fv:AV) (args:List AV) (h:Heap)
 |call (f:Nat) (args:List AV) (h:Heap)
 |any (rd:Bool) (c:AC) (e:Env) (h:Heap)
def GS(id:Nat):AX→AX
 |.exit i=>if i=id then .normal else .exit i
 |x=>x
inductive j8 where
 |code (x:AX) (e:Env) (h:Heap)
 |ops (tr:List aQ) (e:Env) (h:Heap)
 |val (v:AV) (h:Heap)
 |kP (v:AV) (h:Heap)
 |post (Q:AX→Env→Heap→Prop)
inductive BS(fs:Nat→Option aB)(ms:Nat→String→Option Nat):Task→j8→Prop where
 |skip {rd e h}:BS fs ms (.code rd .skip e h) (.code .normal e h)
 |ops {rd l e h tr e' h'}:BS fs ms (.ops rd l e h) (.ops tr e' h')→BS fs ms (.code rd (.ops l) e h) (.code .normal e' h')
 |bH {rd l win e h tr e' h'}:BS fs ms (.ops rd l e h) (.ops tr e' h')→nR l win tr h'→BS fs ms (.code rd (.bH l win) e h) (.code .normal e' h')
 |AL {rd a b e h e1 h1 r}:BS fs ms (.code rd a e h) (.code .normal e1 h1)→BS fs ms (.code rd b e1 h1) r→BS fs ms (.code rd (.seq a b) e h) r
 |qS {rd a b e h x e1 h1}:BS fs ms (.code rd a e h) (.code x e1 h1)→x.bZ=false→BS fs ms (.code rd (.seq a b) e h) (.code x e1 h1)
 |cond {rd c a b e h t r}:e.ev c=.bool t→BS fs ms (.code rd (bif t then a else b) e h) r→BS fs ms (.code rd (.cond c a b) e h) r
 |pX {rd id c e h e1 h1}:BS fs ms (.code rd c e h) (.code (.exit id) e1 h1)→BS fs ms (.code rd (.block id c) e h) (.code .normal e1 h1)
 |gE {rd id c e h x e1 h1}:BS fs ms (.code rd c e h) (.code x e1 h1)→(∀i,x=.exit i→i≠id)→BS fs ms (.code rd (.block id c) e h) (.code x e1 h1)
 |nP {rd c e h e1 h1 r}:BS fs ms (.code rd c e h) (.code .normal e1 h1)→BS fs ms (.code rd (.loop c) e1 h1) r→BS fs ms (.code rd (.loop c) e h) r
 |dJ {rd c e h x e1 h1}:BS fs ms (.code rd c e h) (.code x e1 h1)→x.bZ=false→BS fs ms (.code rd (.loop c) e h) (.code x e1 h1)
 |exit {rd id e h}:BS fs ms (.code rd (.exit id) e h) (.code (.exit id) e h)
 |ret {rd e h}:BS fs ms (.code rd .ret e h) (.code .ret e h)
 |rangeFunc {g ps a b e h f first aN v h2 st x}:Env.ev e g=AV.func (.func f) first aN→
   BS fs ms (.call f (first++(.yield h.next::aN)) (h.new (.loop 0 none e ps a b))) (.val v h2)→
   h2.get h.next=some (.loop st (eJ x) e ps a b)→st≠1→(∀v,x≠.panic v)→
   BS fs ms (.code false (.rangeFunc g ps a b) e h) (.code x e (h2.set h.next (.loop 3 (eJ x) e ps a b)))
 |nil {rd e h}:BS fs ms (.ops rd [] e h) (.ops [] e h)
 |off {rd i l e h tr e' h'}:cz i e=false→BS fs ms (.ops rd l (e.put i.dst .undef) h) (.ops tr e' h')→BS fs ms (.ops rd (i::l) e h) (.ops (⟨h,i.args.map e.ev,.undef,false⟩::tr) e' h')
 |on {rd i l e h v h1 tr e' h'}:cz i e=true→BS fs ms (.op rd i.op (i.args.map e.ev) h) (.val v h1)→BS fs ms (.ops rd l (e.put i.dst v) h1) (.ops tr e' h')→
   BS fs ms (.ops rd (i::l) e h) (.ops (⟨h,i.args.map e.ev,v,true⟩::tr) e' h')
 |Fg {rd o vals h v}:pI o vals=some v→BS fs ms (.op rd (.p o) vals h) (.val v h)
 |PU {rd o vals h x f}:aI o vals=some (x,f)→BS fs ms (.op rd (.a o) vals h) (.val (f h.next) (h.new x))
 |HI {rd o vals h v}:rI o vals h=some v→BS fs ms (.op rd (.r o) vals h) (.val v h)
 |NB {rd o vals h v h1}:eI o vals h=some (v,h1)→BS fs ms (.op rd (.e o) vals h) (.val v h1)
 |UB {rd o vals h v h1}:eK o vals h=some (v,h1)→BS fs ms (.op rd (.e o) vals h) (.val v h1)
 |mF {rd fv args h v h1}:BS fs ms (.dw fv args h) (.val v h1)→BS fs ms (.op rd .call (fv::args) h) (.val v h1)
 |me {rd name t x args h f v h1}:ms t name=some f→BS fs ms (.call f (x::args) h) (.val v h1)→BS fs ms (.op rd (.invoke name) (.iface t x::args) h) (.val v h1)
 |dw {f first aN args h v h1}:BS fs ms (.call f (first++(args++aN)) h) (.val v h1)→BS fs ms (.dw (.func (.func f) first aN) args h) (.val v h1)
 |yield {L args h cF e ps a b e2 h2 cU x e4 h4 MX rU}:h.get L=some (.loop 0 cF e ps a b)→args.length=ps.length→
   BS fs ms (.code true a (gL ps args e) h) (.code .normal e2 h2)→h2.get L=some (.loop 0 cU e ps a b)→
   BS fs ms (.code true b e2 (h2.set L (.loop 1 cU e ps a b))) (.code x e4 h4)→(∀v,x≠.panic v)→h4.get L=some (.loop MX rU e ps a b)→
   BS fs ms (.dw (.yield L) args h) (.val (.bool x.bZ) (h4.set L (.loop (bif x.bZ then 0 else 2) (eJ x) e ps a b)))
 |call {f args h af x e h1 vs}:fs f=some af→args.length≤af.ntmps→BS fs ms (.code false af.body (Env.start af.ntmps args) h) (.code x e h1)→(x=.normal∨x=.ret)→iu e h1 af.results=some vs→
   BS fs ms (.call f args h) (.val (dz vs) h1)
 |Et {rd l1 i l2 e h tr e1 h1 v h2}:BS fs ms (.ops rd l1 e h) (.ops tr e1 h1)→cz i e1=true→BS fs ms (.op rd i.op (i.args.map e1.ev) h1) (.kP v h2)→BS fs ms (.code rd (.ops (l1++i::l2)) e h) (.code (.panic v) e1 h2)
 |xg {rd l1 i win e h tr e1 h1 v h2}:BS fs ms (.ops rd l1 e h) (.ops tr e1 h1)→nR l1 (win.take l1.length) tr h1→nO (l1++[i])=true→cC i.op=true→cz i e1=true→BS fs ms (.op rd i.op (i.args.map e1.ev) h1) (.kP v h2)→
   BS fs ms (.code rd (.bH (l1++[i]) win) e h) (.code (.panic v) e1 h2)
 |qm {rd t x h}:BS fs ms (.op rd .panic [.iface t x] h) (.kP (.iface t x) h)
 |oD {rd fv args h v h1}:BS fs ms (.dw fv args h) (.kP v h1)→BS fs ms (.op rd .call (fv::args) h) (.kP v h1)
 |ni {rd name t x args h f v h1}:ms t name=some f→BS fs ms (.call f (x::args) h) (.kP v h1)→BS fs ms (.op rd (.invoke name) (.iface t x::args) h) (.kP v h1)
 |pY {f first aN args h v h1}:BS fs ms (.call f (first++(args++aN)) h) (.kP v h1)→BS fs ms (.dw (.func (.func f) first aN) args h) (.kP v h1)
 |w6 {f args h af v e h1}:fs f=some af→args.length≤af.ntmps→BS fs ms (.code false af.body (Env.start af.ntmps args) h) (.code (.panic v) e h1)→BS fs ms (.call f args h) (.kP v h1)
 |uQ {f args h af A l1 dst r rest e1 h1 tr e2 h2 g first aN x e3 h3 ag t l2 eE AP e4 y e5 h5 vs}:fs f=some af→args.length≤af.ntmps→af.body=.seq A (.seq (.ops (l1++[qJ dst r])) rest)→
   BS fs ms (.code false A (Env.start af.ntmps args) h) (.code .normal e1 h1)→bp A=true→BS fs ms (.ops false l1 e1 h1) (.ops tr e2 h2)→e2.ev r=.func (.func g) first aN→
   BS fs ms (.code false rest (e2.put dst .undef) h2) (.code x e3 h3)→(x=.normal∨x=.ret∨∃v,x=.panic v)→
   fs g=some ag→(first++aN).length≤ag.ntmps→ag.body=.seq (.ops (zu t::l2)) eE→ag.results=[]→bp eE=true→
   BS fs ms (.ops false l2 ((Env.start ag.ntmps (first++aN)).put (some t) (oQ x)) h3) (.ops AP e4 h3)→mH l2=true→BS fs ms (.code false eE e4 h3) (.code y e5 h5)→(y=.normal∨y=.ret)→
   iu e3 h5 af.results=some vs→BS fs ms (.call f args h) (.val (dz vs) h5)
 |lz {g ps a b e h f first aN v h2}:Env.ev e g=AV.func (.func f) first aN→BS fs ms (.call f (first++(.yield h.next::aN)) (h.new (.loop 0 none e ps a b))) (.kP v h2)→BS fs ms (.code false (.rangeFunc g ps a b) e h) (.code (.panic v) e h2)
 |sD {L args h cF e ps a id A l1 i l2 e2 h2 cU e3 h3 tr e4 h4 v h5}:h.get L=some (.loop 0 cF e ps a (.block id (.seq A (.ops (l1++i::l2)))))→args.length=ps.length→
   BS fs ms (.code true a (gL ps args e) h) (.code .normal e2 h2)→bp a=true→h2.get L=some (.loop 0 cU e ps a (.block id (.seq A (.ops (l1++i::l2)))))→bp A=true→
   BS fs ms (.code true A e2 (h2.set L (.loop 1 cU e ps a (.block id (.seq A (.ops (l1++i::l2))))))) (.code .normal e3 h3)→BS fs ms (.ops true l1 e3 h3) (.ops tr e4 h4)→cz i e4=true→
   BS fs ms (.op true i.op (i.args.map e4.ev) h4) (.kP v h5)→BS fs ms (.dw (.yield L) args h) (.kP v h5)
 |forget {f args h v H h2}:oW h2 H→(∀b,b<h.next→h.get b≠none→h2.get b=H.get b)→BS fs ms (.call f args h) (.val v H)→BS fs ms (.call f args h) (.val v h2)
 |FL {f args h g v u h2}:oW g h→BS fs ms (.call f args g) (.val v u)→h2.next=u.next→(∀b,b<h.next→h2.get b=if(g.get b).isSome=true then u.get b else h.get b)→
   (∀b,h.next≤b→h.get b=none→h2.get b=if b<u.next then u.get b else none)→BS fs ms (.call f args h) (.val v h2)
 |fresh {f args h v h1}:BS fs ms (.call f args ⟨0,.nil⟩) (.val v h1)→bE (fun _=>False) args→v.bq (fun _=>False)→BS fs ms (.call f args h) (.val v h)
 |Kk {rd c e h x e' h' Q}:BS fs ms (.code rd c e h) (.code x e' h')→Q x e' h'→BS fs ms (.any rd c e h) (.post Q)
 |Kl {rd a b e h R Q}:BS fs ms (.any rd a e h) (.post R)→(∀x e1 h1,R x e1 h1→x.bZ=false→Q x e1 h1)→(∀e1 h1,R .normal e1 h1→BS fs ms (.any rd b e1 h1) (.post Q))→BS fs ms (.any rd (.seq a b) e h) (.post Q)
 |G3 {rd c a b e h t Q}:e.ev c=.bool t→BS fs ms (.any rd (bif t then a else b) e h) (.post Q)→BS fs ms (.any rd (.cond c a b) e h) (.post Q)
 |Dl {rd id c e h R Q}:BS fs ms (.any rd c e h) (.post R)→(∀x e1 h1,R x e1 h1→Q (GS id x) e1 h1)→BS fs ms (.any rd (.block id c) e h) (.post Q)
 |G4 {rd c e h R Q}:BS fs ms (.any rd c e h) (.post R)→(∀x e1 h1,R x e1 h1→x.bZ=false→Q x e1 h1)→(∀e1 h1,R .normal e1 h1→BS fs ms (.any rd (.loop c) e1 h1) (.post Q))→BS fs ms (.any rd (.loop c) e h) (.post Q)
 |G5 {rd dst args l e h cs Q} (T:AV×Heap→List aQ) (E:AV×Heap→Env) (H:AV×Heap→Heap):tV (args.map e.ev) h=some cs→cs≠[]→
   (∀p∈cs,BS fs ms (.ops rd l (e.put dst p.1) p.2) (.ops (T p) (E p) (H p)))→(∀p∈cs,Q .normal (E p) (H p))→BS fs ms (.any rd (.ops (⟨dst,none,.e .next,args⟩::l)) e h) (.post Q)
 |Cj {f args h af v h2 Q}:fs f=some af→args.length≤af.ntmps→BS fs ms (.any false af.body (Env.start af.ntmps args) h) (.post Q)→
   (∀x e h1,Q x e h1→(x=.normal∨x=.ret)∧(∃vs,iu e h1 af.results=some vs∧dz vs=v)∧oW h2 h1∧∀b,b<h.next→h.get b≠none→h2.get b=h1.get b)→BS fs ms (.call f args h) (.val v h2)
end Ads
end Go.Proofs.Ytepdklcpagielaa
