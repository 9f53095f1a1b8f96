/-
  The big steps of Ads; what they mean in the model.
-/
import Derived.Test.YtnlcabhfkpafmaaGreatAdsMemX
import Derived.RangeFuncLeaves
import Derived.TacticsIn
import Derived.OrdersIn
set_option linter.unusedSimpArgs false
set_option linter.unusedVariables false
namespace Go.Proofs.YtnlcabhfkpafmaaGreat
namespace Ads
structure aN where
 h:Heap
 vals:List AV
 v:AV
 on:Bool
def cE(i:bE)(e:Env):Bool:=
 match i.guard with
 |none=>true
 |some (d,want)=>match e.get d with
  |.bool b=>b==want
  |_=>false
def dV:List aN→Heap→Heap
 |[],h=>h
 |m::_,_=>m.h
def dL(x:bE)(m:aN):Option dD:=
 match x.op,m.on with
 |.a o,true=>(aI o m.vals).map (·.1)
 |_,_=>none
def iu:List bE→List aN→Tr dD→Tr dD
 |x::l,m::tr,t=>match dL x m with
  |some b=>iu l tr (t.set m.h.next b)
  |none=>iu l tr t
 |_,_,t=>t
def cJ(l:List bE)(tr:List aN)(h':Heap)(c:Nat):Heap:=
 ⟨h'.next,iu (l.drop c) (tr.drop c) (dV (tr.drop c) h').m⟩
def ew(u:Nat→Heap):List bE→List (List Nat)→List aN→Prop
 |x::l,cs::win,m::tr=>(match x.op with
   |.r o=>m.on=true→∀c∈cs,rI o m.vals (u c)=some m.v
   |_=>True)∧ew u l win tr
 |_,_,_=>True
def ni(l:List bE)(win:List (List Nat))(tr:List aN)(h':Heap):Prop:=
 ew (cJ l tr h') l win tr
def wN(e:Env)(h:Heap):ta→Option AV
 |.tmp t=>some (e.get t)
 |.cell a n g=>match e.get a with
  |.ptr b o=>cond g ((h.aZ b o n).map .agg) (h.ck b o)
  |_=>none
def jy(e:Env)(h:Heap):List ta→Option (List AV)
 |[]=>some []
 |r::rs=>match wN e h r,jy e h rs with
  |some v,some vs=>some (v::vs)
  |_,_=>none
def dR:List AV→AV
 |[v]=>v
 |vs=>.cq vs
def gP:List Nat→List AV→Env→Env
 |t::ts,v::vs,e=>gP ts vs (Tr.set e t v)
 |_,_,e=>e
def AX.cB:AX→Bool
 |.normal=>true
 |_=>false
def dO:AX→Option AX
 |.normal=>none
 |x=>some x
def oD:AX→AV
 |.panic v=>v
 |_=>.kE
def nU:List bE→Bool
 |[]=>true
 |i::l=>(match i.op,i.guard with
  |.p _,none=>true
  |_,_=>false)&&nU l
def uy(h g g':Heap):Nat→Tr dD
 |0=>h.m
 |n+1=>if(g.get n).isSome=true∨h.next≤n then Tr.put (g'.get n) (n+1) (uy h g g' n) n else uy h g g' n
def ux(h g g':Heap):Heap:=⟨g'.next,uy h g g' g'.next⟩
def rY(g h:Heap):Prop:=g.next=h.next∧∀b x,g.get b=some x→h.get b=some x
inductive Task where
 |code (rd:Bool) (c:AC) (e:Env) (h:Heap)
 |ops (rd:Bool) (l:List bE) (e:Env) (h:Heap)
 |op (rd:Bool) (o:fH) (vals:List AV) (h:Heap)
 |fD (fv:AV) (args:List AV) (h:Heap)
 |call (f:Nat) (args:List AV) (h:Heap)
 |any (rd:Bool) (c:AC) (e:Env) (h:Heap)
def DD(id:Nat):AX→AX
 |.exit i=>if i=id then .normal else .exit i
 |x=>x
inductive SE where
 |code (x:AX) (e:Env) (h:Heap)
 |ops (tr:List aN) (e:Env) (h:Heap)
 |val (v:AV) (h:Heap)
 |mC (v:AV) (h:Heap)
 |post (Q:AX→Env→Heap→Prop)
inductive BS(fs:Nat→Option an)(ms:Nat→String→Option Nat):Task→SE→Prop where
 |skip {rd e h}:BS fs ms (.code rd .skip e h) (.code .normal e h)
 |ops {rd l e h tr e' h'}:BS fs ms (.ops rd l e h) (.ops tr e' h')→BS fs ms (.code rd (.ops l) e h) (.code .normal e' h')
 |cn {rd l win e h tr e' h'}:BS fs ms (.ops rd l e h) (.ops tr e' h')→ni l win tr h'→BS fs ms (.code rd (.cn l win) e h) (.code .normal e' h')
 |Dy {rd a b e h e1 h1 r}:BS fs ms (.code rd a e h) (.code .normal e1 h1)→BS fs ms (.code rd b e1 h1) r→BS fs ms (.code rd (.seq a b) e h) r
 |tU {rd a b e h x e1 h1}:BS fs ms (.code rd a e h) (.code x e1 h1)→x.cB=false→BS fs ms (.code rd (.seq a b) e h) (.code x e1 h1)
 |cond {rd c a b e h t r}:e.ev c=.bool t→BS fs ms (.code rd (bif t then a else b) e h) r→BS fs ms (.code rd (.cond c a b) e h) r
 |tg {rd id c e h e1 h1}:BS fs ms (.code rd c e h) (.code (.exit id) e1 h1)→BS fs ms (.code rd (.block id c) e h) (.code .normal e1 h1)
 |kz {rd id c e h x e1 h1}:BS fs ms (.code rd c e h) (.code x e1 h1)→(∀i,x=.exit i→i≠id)→BS fs ms (.code rd (.block id c) e h) (.code x e1 h1)
 |uv {rd c e h e1 h1 r}:BS fs ms (.code rd c e h) (.code .normal e1 h1)→BS fs ms (.code rd (.loop c) e1 h1) r→BS fs ms (.code rd (.loop c) e h) r
 |iB {rd c e h x e1 h1}:BS fs ms (.code rd c e h) (.code x e1 h1)→x.cB=false→BS fs ms (.code rd (.loop c) e h) (.code x e1 h1)
 |exit {rd id e h}:BS fs ms (.code rd (.exit id) e h) (.code (.exit id) e h)
 |ret {rd e h}:BS fs ms (.code rd .ret e h) (.code .ret e h)
 |rangeFunc {g ps a b e h f first aM v h2 st x}:Env.ev e g=AV.func (.func f) first aM→
   BS fs ms (.call f (first++(.yield h.next::aM)) (h.new (.loop 0 none e ps a b))) (.val v h2)→
   h2.get h.next=some (.loop st (dO x) e ps a b)→st≠1→(∀v,x≠.panic v)→
   BS fs ms (.code false (.rangeFunc g ps a b) e h) (.code x e (h2.set h.next (.loop 3 (dO x) e ps a b)))
 |nil {rd e h}:BS fs ms (.ops rd [] e h) (.ops [] e h)
 |off {rd i l e h tr e' h'}:cE i e=false→BS fs ms (.ops rd l (e.put i.dst .undef) h) (.ops tr e' h')→BS fs ms (.ops rd (i::l) e h) (.ops (⟨h,i.args.map e.ev,.undef,false⟩::tr) e' h')
 |on {rd i l e h v h1 tr e' h'}:cE i e=true→BS fs ms (.op rd i.op (i.args.map e.ev) h) (.val v h1)→BS fs ms (.ops rd l (e.put i.dst v) h1) (.ops tr e' h')→
   BS fs ms (.ops rd (i::l) e h) (.ops (⟨h,i.args.map e.ev,v,true⟩::tr) e' h')
 |KO {rd o vals h v}:pI o vals=some v→BS fs ms (.op rd (.p o) vals h) (.val v h)
 |SU {rd o vals h x f}:aI o vals=some (x,f)→BS fs ms (.op rd (.a o) vals h) (.val (f h.next) (h.new x))
 |Jl {rd o vals h v}:rI o vals h=some v→BS fs ms (.op rd (.r o) vals h) (.val v h)
 |RP {rd o vals h v h1}:eI o vals h=some (v,h1)→BS fs ms (.op rd (.e o) vals h) (.val v h1)
 |WE {rd o vals h v h1}:eK o vals h=some (v,h1)→BS fs ms (.op rd (.e o) vals h) (.val v h1)
 |tN {rd fv args h v h1}:BS fs ms (.fD fv args h) (.val v h1)→BS fs ms (.op rd .call (fv::args) h) (.val v h1)
 |o8 {rd name t x args h f v h1}:ms t name=some f→BS fs ms (.call f (x::args) h) (.val v h1)→BS fs ms (.op rd (.invoke name) (.iface t x::args) h) (.val v h1)
 |fD {f first aM args h v h1}:BS fs ms (.call f (first++(args++aM)) h) (.val v h1)→BS fs ms (.fD (.func (.func f) first aM) args h) (.val v h1)
 |yield {L args h fZ e ps a b e2 h2 cN x e4 h4 OU sM}:h.get L=some (.loop 0 fZ e ps a b)→args.length=ps.length→
   BS fs ms (.code true a (gP ps args e) h) (.code .normal e2 h2)→h2.get L=some (.loop 0 cN e ps a b)→
   BS fs ms (.code true b e2 (h2.set L (.loop 1 cN e ps a b))) (.code x e4 h4)→(∀v,x≠.panic v)→h4.get L=some (.loop OU sM e ps a b)→
   BS fs ms (.fD (.yield L) args h) (.val (.bool x.cB) (h4.set L (.loop (bif x.cB then 0 else 2) (dO x) e ps a b)))
 |call {f args h af x e h1 vs}:fs f=some af→args.length≤af.ntmps→BS fs ms (.code false af.body (Env.start af.ntmps args) h) (.code x e h1)→(x=.normal∨x=.ret)→jy e h1 af.results=some vs→
   BS fs ms (.call f args h) (.val (dR vs) h1)
 |NT {rd l1 i l2 e h tr e1 h1 v h2}:BS fs ms (.ops rd l1 e h) (.ops tr e1 h1)→cE i e1=true→BS fs ms (.op rd i.op (i.args.map e1.ev) h1) (.mC v h2)→BS fs ms (.code rd (.ops (l1++i::l2)) e h) (.code (.panic v) e1 h2)
 |D3 {rd l1 i win e h tr e1 h1 v h2}:BS fs ms (.ops rd l1 e h) (.ops tr e1 h1)→ni l1 (win.take l1.length) tr h1→rA (l1++[i])=true→bU i.op=true→cE i e1=true→BS fs ms (.op rd i.op (i.args.map e1.ev) h1) (.mC v h2)→
   BS fs ms (.code rd (.cn (l1++[i]) win) e h) (.code (.panic v) e1 h2)
 |vf {rd t x h}:BS fs ms (.op rd .panic [.iface t x] h) (.mC (.iface t x) h)
 |ve {rd fv args h v h1}:BS fs ms (.fD fv args h) (.mC v h1)→BS fs ms (.op rd .call (fv::args) h) (.mC v h1)
 |qa {rd name t x args h f v h1}:ms t name=some f→BS fs ms (.call f (x::args) h) (.mC v h1)→BS fs ms (.op rd (.invoke name) (.iface t x::args) h) (.mC v h1)
 |zj {f first aM args h v h1}:BS fs ms (.call f (first++(args++aM)) h) (.mC v h1)→BS fs ms (.fD (.func (.func f) first aM) args h) (.mC v h1)
 |DW {f args h af v e h1}:fs f=some af→args.length≤af.ntmps→BS fs ms (.code false af.body (Env.start af.ntmps args) h) (.code (.panic v) e h1)→BS fs ms (.call f args h) (.mC v h1)
 |DV {f args h af A l1 dst r rest e1 h1 tr e2 h2 g first aM x e3 h3 ag t l2 iC PE e4 y e5 h5 vs}:fs f=some af→args.length≤af.ntmps→af.body=.seq A (.seq (.ops (l1++[qG dst r])) rest)→
   BS fs ms (.code false A (Env.start af.ntmps args) h) (.code .normal e1 h1)→bD A=true→BS fs ms (.ops false l1 e1 h1) (.ops tr e2 h2)→e2.ev r=.func (.func g) first aM→
   BS fs ms (.code false rest (e2.put dst .undef) h2) (.code x e3 h3)→(x=.normal∨x=.ret∨∃v,x=.panic v)→
   fs g=some ag→(first++aM).length≤ag.ntmps→ag.body=.seq (.ops (z8 t::l2)) iC→ag.results=[]→bD iC=true→
   BS fs ms (.ops false l2 ((Env.start ag.ntmps (first++aM)).put (some t) (oD x)) h3) (.ops PE e4 h3)→nU l2=true→BS fs ms (.code false iC e4 h3) (.code y e5 h5)→(y=.normal∨y=.ret)→
   jy e3 h5 af.results=some vs→BS fs ms (.call f args h) (.val (dR vs) h5)
 |nY {g ps a b e h f first aM v h2}:Env.ev e g=AV.func (.func f) first aM→BS fs ms (.call f (first++(.yield h.next::aM)) (h.new (.loop 0 none e ps a b))) (.mC v h2)→BS fs ms (.code false (.rangeFunc g ps a b) e h) (.code (.panic v) e h2)
 |Au {L args h fZ e ps a id A l1 i l2 e2 h2 cN e3 h3 tr e4 h4 v h5}:h.get L=some (.loop 0 fZ e ps a (.block id (.seq A (.ops (l1++i::l2)))))→args.length=ps.length→
   BS fs ms (.code true a (gP ps args e) h) (.code .normal e2 h2)→bD a=true→h2.get L=some (.loop 0 cN e ps a (.block id (.seq A (.ops (l1++i::l2)))))→bD A=true→
   BS fs ms (.code true A e2 (h2.set L (.loop 1 cN e ps a (.block id (.seq A (.ops (l1++i::l2))))))) (.code .normal e3 h3)→BS fs ms (.ops true l1 e3 h3) (.ops tr e4 h4)→cE i e4=true→
   BS fs ms (.op true i.op (i.args.map e4.ev) h4) (.mC v h5)→BS fs ms (.fD (.yield L) args h) (.mC v h5)
 |forget {f args h v H h2}:rY h2 H→(∀b,b<h.next→h.get b≠none→h2.get b=H.get b)→BS fs ms (.call f args h) (.val v H)→BS fs ms (.call f args h) (.val v h2)
 |Qs {f args h g v u h2}:rY g h→BS fs ms (.call f args g) (.val v u)→h2.next=u.next→(∀b,b<h.next→h2.get b=if(g.get b).isSome=true then u.get b else h.get b)→
   (∀b,h.next≤b→h.get b=none→h2.get b=if b<u.next then u.get b else none)→BS fs ms (.call f args h) (.val v h2)
 |fresh {f args h v h1}:BS fs ms (.call f args ⟨0,.nil⟩) (.val v h1)→bn (fun _=>False) args→v.aY (fun _=>False)→BS fs ms (.call f args h) (.val v h)
 |PX {rd c e h x e' h' Q}:BS fs ms (.code rd c e h) (.code x e' h')→Q x e' h'→BS fs ms (.any rd c e h) (.post Q)
 |PY {rd a b e h R Q}:BS fs ms (.any rd a e h) (.post R)→(∀x e1 h1,R x e1 h1→x.cB=false→Q x e1 h1)→(∀e1 h1,R .normal e1 h1→BS fs ms (.any rd b e1 h1) (.post Q))→BS fs ms (.any rd (.seq a b) e h) (.post Q)
 |Ms {rd c a b e h t Q}:e.ev c=.bool t→BS fs ms (.any rd (bif t then a else b) e h) (.post Q)→BS fs ms (.any rd (.cond c a b) e h) (.post Q)
 |Hi {rd id c e h R Q}:BS fs ms (.any rd c e h) (.post R)→(∀x e1 h1,R x e1 h1→Q (DD id x) e1 h1)→BS fs ms (.any rd (.block id c) e h) (.post Q)
 |Mt {rd c e h R Q}:BS fs ms (.any rd c e h) (.post R)→(∀x e1 h1,R x e1 h1→x.cB=false→Q x e1 h1)→(∀e1 h1,R .normal e1 h1→BS fs ms (.any rd (.loop c) e1 h1) (.post Q))→BS fs ms (.any rd (.loop c) e h) (.post Q)
 |Mu {rd dst args l e h cs Q} (T:AV×Heap→List aN) (E:AV×Heap→Env) (H:AV×Heap→Heap):yK (args.map e.ev) h=some cs→cs≠[]→
   (∀p∈cs,BS fs ms (.ops rd l (e.put dst p.1) p.2) (.ops (T p) (E p) (H p)))→(∀p∈cs,Q .normal (E p) (H p))→BS fs ms (.any rd (.ops (⟨dst,none,.e .next,args⟩::l)) e h) (.post Q)
 |MG {f args h af v h2 Q}:fs f=some af→args.length≤af.ntmps→BS fs ms (.any false af.body (Env.start af.ntmps args) h) (.post Q)→
   (∀x e h1,Q x e h1→(x=.normal∨x=.ret)∧(∃vs,jy e h1 af.results=some vs∧dR vs=v)∧rY h2 h1∧∀b,b<h.next→h.get b≠none→h2.get b=h1.get b)→BS fs ms (.call f args h) (.val v h2)
end Ads
end Go.Proofs.YtnlcabhfkpafmaaGreat
