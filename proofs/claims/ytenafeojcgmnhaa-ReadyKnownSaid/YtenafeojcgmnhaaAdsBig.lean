/-
  The big steps of Ads; what they mean in the model.
-/
import Derived.Test.YtenafeojcgmnhaaAdsMemX
import Derived.RangeFuncLeaves
import Derived.TacticsIn
import Derived.OrdersIn
set_option linter.unusedSimpArgs false
set_option linter.unusedVariables false
namespace Go.Proofs.Ytenafeojcgmnhaa
namespace Ads
structure aK where
 h:Heap
 vals:List AV
 v:AV
 on:Bool
def bP(i:bq)(e:Env):Bool:=
 match i.guard with
 |none=>true
 |some (d,want)=>match e.get d with
  |.bool b=>b==want
  |_=>false
def dP:List aK→Heap→Heap
 |[],h=>h
 |m::_,_=>m.h
def dG(x:bq)(m:aK):Option cw:=
 match x.op,m.on with
 |.a o,true=>(aI o m.vals).map (·.1)
 |_,_=>none
def dS:List bq→List aK→Tr cw→Tr cw
 |x::l,m::tr,t=>match dG x m with
  |some b=>dS l tr (t.set m.h.next b)
  |none=>dS l tr t
 |_,_,t=>t
def cr(l:List bq)(tr:List aK)(h':Heap)(c:Nat):Heap:=
 ⟨h'.next,dS (l.drop c) (tr.drop c) (dP (tr.drop c) h').m⟩
def cq(u:Nat→Heap):List bq→List (List Nat)→List aK→Prop
 |x::l,cs::win,m::tr=>(match x.op with
   |.r o=>m.on=true→∀c∈cs,rI o m.vals (u c)=some m.v
   |_=>True)∧cq u l win tr
 |_,_,_=>True
def lN(l:List bq)(win:List (List Nat))(tr:List aK)(h':Heap):Prop:=
 cq (cr l tr h') l win tr
def vP(e:Env)(h:Heap):qF→Option AV
 |.tmp t=>some (e.get t)
 |.cell a n g=>match e.get a with
  |.ptr b o=>cond g ((h.aO b o n).map .agg) (h.bW b o)
  |_=>none
def gK(e:Env)(h:Heap):List qF→Option (List AV)
 |[]=>some []
 |r::rs=>match vP e h r,gK e h rs with
  |some v,some vs=>some (v::vs)
  |_,_=>none
def cR:List AV→AV
 |[v]=>v
 |vs=>.cg vs
def fY:List Nat→List AV→Env→Env
 |t::ts,v::vs,e=>fY ts vs (Tr.set e t v)
 |_,_,e=>e
def AX.bI:AX→Bool
 |.normal=>true
 |_=>false
def dH:AX→Option AX
 |.normal=>none
 |x=>some x
def nM:AX→AV
 |.panic v=>v
 |_=>.jq
def lM:List bq→Bool
 |[]=>true
 |i::l=>(match i.op,i.guard with
  |.p _,none=>true
  |_,_=>false)&&lM l
def sw(h g g':Heap):Nat→Tr cw
 |0=>h.m
 |n+1=>if(g.get n).isSome=true∨h.next≤n then Tr.put (g'.get n) (n+1) (sw h g g' n) n else sw h g g' n
def mX(h g g':Heap):Heap:=⟨g'.next,sw h g g' g'.next⟩
def mK(g h:Heap):Prop:=g.next=h.next∧∀b x,g.get b=some x→h.get b=some x
inductive Task where
 |code (rd:Bool) (c:AC) (e:Env) (h:Heap)
 |ops (rd:Bool) (l:List bq) (e:Env) (h:Heap)
 |op (rd:Bool) (o:gw) (vals:List AV) (h:Heap)
 |cH (fv:AV) (args:List AV) (h:Heap)
 |call (f:Nat) (args:List AV) (h:Heap)
 |any (rd:Bool) (c:AC) (e:Env) (h:Heap)
def Db(id:Nat):AX→AX
 |.exit i=>if i=id then .normal else .exit i
 |x=>x
inductive jb where
 |code (x:AX) (e:Env) (h:Heap)
 |ops (tr:List aK) (e:Env) (h:Heap)
 |val (v:AV) (h:Heap)
 |jD (v:AV) (h:Heap)
 |post (Q:AX→Env→Heap→Prop)
inductive BS(fs:Nat→Option aC)(ms:Nat→String→Option Nat):Task→jb→Prop where
 |skip {rd e h}:BS fs ms (.code rd .skip e h) (.code .normal e h)
 |ops {rd l e h tr e' h'}:BS fs ms (.ops rd l e h) (.ops tr e' h')→BS fs ms (.code rd (.ops l) e h) (.code .normal e' h')
 |bN {rd l win e h tr e' h'}:BS fs ms (.ops rd l e h) (.ops tr e' h')→lN l win tr h'→BS fs ms (.code rd (.bN l win) e h) (.code .normal e' h')
 |w7 {rd a b e h e1 h1 r}:BS fs ms (.code rd a e h) (.code .normal e1 h1)→BS fs ms (.code rd b e1 h1) r→BS fs ms (.code rd (.seq a b) e h) r
 |n9 {rd a b e h x e1 h1}:BS fs ms (.code rd a e h) (.code x e1 h1)→x.bI=false→BS fs ms (.code rd (.seq a b) e h) (.code x e1 h1)
 |cond {rd c a b e h t r}:e.ev c=.bool t→BS fs ms (.code rd (bif t then a else b) e h) r→BS fs ms (.code rd (.cond c a b) e h) r
 |nv {rd id c e h e1 h1}:BS fs ms (.code rd c e h) (.code (.exit id) e1 h1)→BS fs ms (.code rd (.block id c) e h) (.code .normal e1 h1)
 |fR {rd id c e h x e1 h1}:BS fs ms (.code rd c e h) (.code x e1 h1)→(∀i,x=.exit i→i≠id)→BS fs ms (.code rd (.block id c) e h) (.code x e1 h1)
 |lI {rd c e h e1 h1 r}:BS fs ms (.code rd c e h) (.code .normal e1 h1)→BS fs ms (.code rd (.loop c) e1 h1) r→BS fs ms (.code rd (.loop c) e h) r
 |cQ {rd c e h x e1 h1}:BS fs ms (.code rd c e h) (.code x e1 h1)→x.bI=false→BS fs ms (.code rd (.loop c) e h) (.code x e1 h1)
 |exit {rd id e h}:BS fs ms (.code rd (.exit id) e h) (.code (.exit id) e h)
 |ret {rd e h}:BS fs ms (.code rd .ret e h) (.code .ret e h)
 |rangeFunc {g ps a b e h f first aX v h2 st x}:Env.ev e g=AV.func (.func f) first aX→
   BS fs ms (.call f (first++(.yield h.next::aX)) (h.new (.loop 0 none e ps a b))) (.val v h2)→
   h2.get h.next=some (.loop st (dH x) e ps a b)→st≠1→(∀v,x≠.panic v)→
   BS fs ms (.code false (.rangeFunc g ps a b) e h) (.code x e (h2.set h.next (.loop 3 (dH x) e ps a b)))
 |nil {rd e h}:BS fs ms (.ops rd [] e h) (.ops [] e h)
 |off {rd i l e h tr e' h'}:bP i e=false→BS fs ms (.ops rd l (e.put i.dst .undef) h) (.ops tr e' h')→BS fs ms (.ops rd (i::l) e h) (.ops (⟨h,i.args.map e.ev,.undef,false⟩::tr) e' h')
 |on {rd i l e h v h1 tr e' h'}:bP i e=true→BS fs ms (.op rd i.op (i.args.map e.ev) h) (.val v h1)→BS fs ms (.ops rd l (e.put i.dst v) h1) (.ops tr e' h')→
   BS fs ms (.ops rd (i::l) e h) (.ops (⟨h,i.args.map e.ev,v,true⟩::tr) e' h')
 |BV {rd o vals h v}:pI o vals=some v→BS fs ms (.op rd (.p o) vals h) (.val v h)
 |Kk {rd o vals h x f}:aI o vals=some (x,f)→BS fs ms (.op rd (.a o) vals h) (.val (f h.next) (h.new x))
 |D1 {rd o vals h v}:rI o vals h=some v→BS fs ms (.op rd (.r o) vals h) (.val v h)
 |IU {rd o vals h v h1}:eI o vals h=some (v,h1)→BS fs ms (.op rd (.e o) vals h) (.val v h1)
 |Q0 {rd o vals h v h1}:eK o vals h=some (v,h1)→BS fs ms (.op rd (.e o) vals h) (.val v h1)
 |lJ {rd fv args h v h1}:BS fs ms (.cH fv args h) (.val v h1)→BS fs ms (.op rd .call (fv::args) h) (.val v h1)
 |j7 {rd name t x args h f v h1}:ms t name=some f→BS fs ms (.call f (x::args) h) (.val v h1)→BS fs ms (.op rd (.invoke name) (.iface t x::args) h) (.val v h1)
 |cH {f first aX args h v h1}:BS fs ms (.call f (first++(args++aX)) h) (.val v h1)→BS fs ms (.cH (.func (.func f) first aX) args h) (.val v h1)
 |yield {L args h cu e ps a b e2 h2 cm x e4 h4 It oN}:h.get L=some (.loop 0 cu e ps a b)→args.length=ps.length→
   BS fs ms (.code true a (fY ps args e) h) (.code .normal e2 h2)→h2.get L=some (.loop 0 cm e ps a b)→
   BS fs ms (.code true b e2 (h2.set L (.loop 1 cm e ps a b))) (.code x e4 h4)→(∀v,x≠.panic v)→h4.get L=some (.loop It oN e ps a b)→
   BS fs ms (.cH (.yield L) args h) (.val (.bool x.bI) (h4.set L (.loop (bif x.bI then 0 else 2) (dH x) e ps a b)))
 |call {f args h af x e h1 vs}:fs f=some af→args.length≤af.ntmps→BS fs ms (.code false af.body (Env.start af.ntmps args) h) (.code x e h1)→(x=.normal∨x=.ret)→gK e h1 af.results=some vs→
   BS fs ms (.call f args h) (.val (cR vs) h1)
 |E7 {rd l1 i l2 e h tr e1 h1 v h2}:BS fs ms (.ops rd l1 e h) (.ops tr e1 h1)→bP i e1=true→BS fs ms (.op rd i.op (i.args.map e1.ev) h1) (.jD v h2)→BS fs ms (.code rd (.ops (l1++i::l2)) e h) (.code (.panic v) e1 h2)
 |xA {rd l1 i win e h tr e1 h1 v h2}:BS fs ms (.ops rd l1 e h) (.ops tr e1 h1)→lN l1 (win.take l1.length) tr h1→nD (l1++[i])=true→bT i.op=true→bP i e1=true→BS fs ms (.op rd i.op (i.args.map e1.ev) h1) (.jD v h2)→
   BS fs ms (.code rd (.bN (l1++[i]) win) e h) (.code (.panic v) e1 h2)
 |pW {rd t x h}:BS fs ms (.op rd .panic [.iface t x] h) (.jD (.iface t x) h)
 |nE {rd fv args h v h1}:BS fs ms (.cH fv args h) (.jD v h1)→BS fs ms (.op rd .call (fv::args) h) (.jD v h1)
 |kT {rd name t x args h f v h1}:ms t name=some f→BS fs ms (.call f (x::args) h) (.jD v h1)→BS fs ms (.op rd (.invoke name) (.iface t x::args) h) (.jD v h1)
 |om {f first aX args h v h1}:BS fs ms (.call f (first++(args++aX)) h) (.jD v h1)→BS fs ms (.cH (.func (.func f) first aX) args h) (.jD v h1)
 |uQ {f args h af v e h1}:fs f=some af→args.length≤af.ntmps→BS fs ms (.code false af.body (Env.start af.ntmps args) h) (.code (.panic v) e h1)→BS fs ms (.call f args h) (.jD v h1)
 |tP {f args h af A l1 dst r rest e1 h1 tr e2 h2 g first aX x e3 h3 ag t l2 eD ye e4 y e5 h5 vs}:fs f=some af→args.length≤af.ntmps→af.body=.seq A (.seq (.ops (l1++[ox dst r])) rest)→
   BS fs ms (.code false A (Env.start af.ntmps args) h) (.code .normal e1 h1)→aY A=true→BS fs ms (.ops false l1 e1 h1) (.ops tr e2 h2)→e2.ev r=.func (.func g) first aX→
   BS fs ms (.code false rest (e2.put dst .undef) h2) (.code x e3 h3)→(x=.normal∨x=.ret∨∃v,x=.panic v)→
   fs g=some ag→(first++aX).length≤ag.ntmps→ag.body=.seq (.ops (w6 t::l2)) eD→ag.results=[]→aY eD=true→
   BS fs ms (.ops false l2 ((Env.start ag.ntmps (first++aX)).put (some t) (nM x)) h3) (.ops ye e4 h3)→lM l2=true→BS fs ms (.code false eD e4 h3) (.code y e5 h5)→(y=.normal∨y=.ret)→
   gK e3 h5 af.results=some vs→BS fs ms (.call f args h) (.val (cR vs) h5)
 |jM {g ps a b e h f first aX v h2}:Env.ev e g=AV.func (.func f) first aX→BS fs ms (.call f (first++(.yield h.next::aX)) (h.new (.loop 0 none e ps a b))) (.jD v h2)→BS fs ms (.code false (.rangeFunc g ps a b) e h) (.code (.panic v) e h2)
 |pe {L args h cu e ps a id A l1 i l2 e2 h2 cm e3 h3 tr e4 h4 v h5}:h.get L=some (.loop 0 cu e ps a (.block id (.seq A (.ops (l1++i::l2)))))→args.length=ps.length→
   BS fs ms (.code true a (fY ps args e) h) (.code .normal e2 h2)→aY a=true→h2.get L=some (.loop 0 cm e ps a (.block id (.seq A (.ops (l1++i::l2)))))→aY A=true→
   BS fs ms (.code true A e2 (h2.set L (.loop 1 cm e ps a (.block id (.seq A (.ops (l1++i::l2))))))) (.code .normal e3 h3)→BS fs ms (.ops true l1 e3 h3) (.ops tr e4 h4)→bP i e4=true→
   BS fs ms (.op true i.op (i.args.map e4.ev) h4) (.jD v h5)→BS fs ms (.cH (.yield L) args h) (.jD v h5)
 |forget {f args h v H h2}:mK h2 H→(∀b,b<h.next→h.get b≠none→h2.get b=H.get b)→BS fs ms (.call f args h) (.val v H)→BS fs ms (.call f args h) (.val v h2)
 |Cj {f args h g v u h2}:mK g h→BS fs ms (.call f args g) (.val v u)→h2.next=u.next→(∀b,b<h.next→h2.get b=if(g.get b).isSome=true then u.get b else h.get b)→
   (∀b,h.next≤b→h.get b=none→h2.get b=if b<u.next then u.get b else none)→BS fs ms (.call f args h) (.val v h2)
 |fresh {f args h v h1}:BS fs ms (.call f args ⟨0,.nil⟩) (.val v h1)→bg (fun _=>False) args→v.aR (fun _=>False)→BS fs ms (.call f args h) (.val v h)
 |FP {rd c e h x e' h' Q}:BS fs ms (.code rd c e h) (.code x e' h')→Q x e' h'→BS fs ms (.any rd c e h) (.post Q)
 |FQ {rd a b e h R Q}:BS fs ms (.any rd a e h) (.post R)→(∀x e1 h1,R x e1 h1→x.bI=false→Q x e1 h1)→(∀e1 h1,R .normal e1 h1→BS fs ms (.any rd b e1 h1) (.post Q))→BS fs ms (.any rd (.seq a b) e h) (.post Q)
 |Dm {rd c a b e h t Q}:e.ev c=.bool t→BS fs ms (.any rd (bif t then a else b) e h) (.post Q)→BS fs ms (.any rd (.cond c a b) e h) (.post Q)
 |Ag {rd id c e h R Q}:BS fs ms (.any rd c e h) (.post R)→(∀x e1 h1,R x e1 h1→Q (Db id x) e1 h1)→BS fs ms (.any rd (.block id c) e h) (.post Q)
 |Dn {rd c e h R Q}:BS fs ms (.any rd c e h) (.post R)→(∀x e1 h1,R x e1 h1→x.bI=false→Q x e1 h1)→(∀e1 h1,R .normal e1 h1→BS fs ms (.any rd (.loop c) e1 h1) (.post Q))→BS fs ms (.any rd (.loop c) e h) (.post Q)
 |Dp {rd dst args l e h cs Q} (T:AV×Heap→List aK) (E:AV×Heap→Env) (H:AV×Heap→Heap):qC (args.map e.ev) h=some cs→cs≠[]→
   (∀p∈cs,BS fs ms (.ops rd l (e.put dst p.1) p.2) (.ops (T p) (E p) (H p)))→(∀p∈cs,Q .normal (E p) (H p))→BS fs ms (.any rd (.ops (⟨dst,none,.e .next,args⟩::l)) e h) (.post Q)
 |yC {f args h af v h2 Q}:fs f=some af→args.length≤af.ntmps→BS fs ms (.any false af.body (Env.start af.ntmps args) h) (.post Q)→
   (∀x e h1,Q x e h1→(x=.normal∨x=.ret)∧(∃vs,gK e h1 af.results=some vs∧cR vs=v)∧mK h2 h1∧∀b,b<h.next→h.get b≠none→h2.get b=h1.get b)→BS fs ms (.call f args h) (.val v h2)
end Ads
end Go.Proofs.Ytenafeojcgmnhaa
