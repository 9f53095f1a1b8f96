/-
  The big steps of Ads; what they mean in the model.
-/
import Derived.Test.YtmnolnoeibhjgaaGreatAdsMemX
import Derived.RangeFuncLeaves
import Derived.TacticsIn
import Derived.OrdersIn
set_option linter.unusedSimpArgs false
set_option linter.unusedVariables false
namespace Go.Proofs.YtmnolnoeibhjgaaGreat
namespace Ads
structure aK where
 h:Heap
 vals:List AV
 v:AV
 on:Bool
def bO(i:bp)(e:Env):Bool:=
 match i.guard with
 |none=>true
 |some (d,want)=>match e.get d with
  |.bool b=>b==want
  |_=>false
def dQ:List aK→Heap→Heap
 |[],h=>h
 |m::_,_=>m.h
def dL(x:bp)(m:aK):Option bP:=
 match x.op,m.on with
 |.a o,true=>(aI o m.vals).map (·.1)
 |_,_=>none
def fu:List bp→List aK→Tr bP→Tr bP
 |x::l,m::tr,t=>match dL x m with
  |some b=>fu l tr (t.set m.h.next b)
  |none=>fu l tr t
 |_,_,t=>t
def cA(l:List bp)(tr:List aK)(h':Heap)(c:Nat):Heap:=
 ⟨h'.next,fu (l.drop c) (tr.drop c) (dQ (tr.drop c) h').m⟩
def cz(u:Nat→Heap):List bp→List (List Nat)→List aK→Prop
 |x::l,cs::win,m::tr=>(match x.op with
   |.r o=>m.on=true→∀c∈cs,rI o m.vals (u c)=some m.v
   |_=>True)∧cz u l win tr
 |_,_,_=>True
def lF(l:List bp)(win:List (List Nat))(tr:List aK)(h':Heap):Prop:=
 cz (cA l tr h') l win tr
def wq(e:Env)(h:Heap):qv→Option AV
 |.tmp t=>some (e.get t)
 |.cell a n g=>match e.get a with
  |.ptr b o=>cond g ((h.bt b o n).map .agg) (h.cP b o)
  |_=>none
def eA(e:Env)(h:Heap):List qv→Option (List AV)
 |[]=>some []
 |r::rs=>match wq e h r,eA e h rs with
  |some v,some vs=>some (v::vs)
  |_,_=>none
def cB:List AV→AV
 |[v]=>v
 |vs=>.dO vs
def eW:List Nat→List AV→Env→Env
 |t::ts,v::vs,e=>eW ts vs (Tr.set e t v)
 |_,_,e=>e
def AX.bB:AX→Bool
 |.normal=>true
 |_=>false
def cU:AX→Option AX
 |.normal=>none
 |x=>some x
def mC:AX→AV
 |.panic v=>v
 |_=>.ja
def ke:List bp→Bool
 |[]=>true
 |i::l=>(match i.op,i.guard with
  |.p _,none=>true
  |_,_=>false)&&ke l
def sH(h g g':Heap):Nat→Tr bP
 |0=>h.m
 |n+1=>if(g.get n).isSome=true∨h.next≤n then Tr.put (g'.get n) (n+1) (sH h g g' n) n else sH h g g' n
def mX(h g g':Heap):Heap:=⟨g'.next,sH h g g' g'.next⟩
def kV(g h:Heap):Prop:=g.next=h.next∧∀b x,g.get b=some x→h.get b=some x
inductive Task where
 |code (rd:Bool) (c:AC) (e:Env) (h:Heap)
 |ops (rd:Bool) (l:List bp) (e:Env) (h:Heap)
 |op (rd:Bool) (o:fG) (vals:List AV) (h:Heap)
 |cK (fv:AV) (args:List AV) (h:Heap)
 |call (f:Nat) (args:List AV) (h:Heap)
 |any (rd:Bool) (c:AC) (e:Env) (h:Heap)
def Dg(id:Nat):AX→AX
 |.exit i=>if i=id then .normal else .exit i
 |x=>x
inductive iF where
 |code (x:AX) (e:Env) (h:Heap)
 |ops (tr:List aK) (e:Env) (h:Heap)
 |val (v:AV) (h:Heap)
 |jh (v:AV) (h:Heap)
 |post (Q:AX→Env→Heap→Prop)
inductive BS(fs:Nat→Option aj)(ms:Nat→String→Option Nat):Task→iF→Prop where
 |skip {rd e h}:BS fs ms (.code rd .skip e h) (.code .normal e h)
 |ops {rd l e h tr e' h'}:BS fs ms (.ops rd l e h) (.ops tr e' h')→BS fs ms (.code rd (.ops l) e h) (.code .normal e' h')
 |bI {rd l win e h tr e' h'}:BS fs ms (.ops rd l e h) (.ops tr e' h')→lF l win tr h'→BS fs ms (.code rd (.bI l win) e h) (.code .normal e' h')
 |wC {rd a b e h e1 h1 r}:BS fs ms (.code rd a e h) (.code .normal e1 h1)→BS fs ms (.code rd b e1 h1) r→BS fs ms (.code rd (.seq a b) e h) r
 |oz {rd a b e h x e1 h1}:BS fs ms (.code rd a e h) (.code x e1 h1)→x.bB=false→BS fs ms (.code rd (.seq a b) e h) (.code x e1 h1)
 |cond {rd c a b e h t r}:e.ev c=.bool t→BS fs ms (.code rd (bif t then a else b) e h) r→BS fs ms (.code rd (.cond c a b) e h) r
 |nw {rd id c e h e1 h1}:BS fs ms (.code rd c e h) (.code (.exit id) e1 h1)→BS fs ms (.code rd (.block id c) e h) (.code .normal e1 h1)
 |eR {rd id c e h x e1 h1}:BS fs ms (.code rd c e h) (.code x e1 h1)→(∀i,x=.exit i→i≠id)→BS fs ms (.code rd (.block id c) e h) (.code x e1 h1)
 |lE {rd c e h e1 h1 r}:BS fs ms (.code rd c e h) (.code .normal e1 h1)→BS fs ms (.code rd (.loop c) e1 h1) r→BS fs ms (.code rd (.loop c) e h) r
 |cT {rd c e h x e1 h1}:BS fs ms (.code rd c e h) (.code x e1 h1)→x.bB=false→BS fs ms (.code rd (.loop c) e h) (.code x e1 h1)
 |exit {rd id e h}:BS fs ms (.code rd (.exit id) e h) (.code (.exit id) e h)
 |ret {rd e h}:BS fs ms (.code rd .ret e h) (.code .ret e h)
 |rangeFunc {g ps a b e h f first aO v h2 st x}:Env.ev e g=AV.func (.func f) first aO→
   BS fs ms (.call f (first++(.yield h.next::aO)) (h.new (.loop 0 none e ps a b))) (.val v h2)→
   h2.get h.next=some (.loop st (cU x) e ps a b)→st≠1→(∀v,x≠.panic v)→
   BS fs ms (.code false (.rangeFunc g ps a b) e h) (.code x e (h2.set h.next (.loop 3 (cU x) e ps a b)))
 |nil {rd e h}:BS fs ms (.ops rd [] e h) (.ops [] e h)
 |off {rd i l e h tr e' h'}:bO i e=false→BS fs ms (.ops rd l (e.put i.dst .undef) h) (.ops tr e' h')→BS fs ms (.ops rd (i::l) e h) (.ops (⟨h,i.args.map e.ev,.undef,false⟩::tr) e' h')
 |on {rd i l e h v h1 tr e' h'}:bO i e=true→BS fs ms (.op rd i.op (i.args.map e.ev) h) (.val v h1)→BS fs ms (.ops rd l (e.put i.dst v) h1) (.ops tr e' h')→
   BS fs ms (.ops rd (i::l) e h) (.ops (⟨h,i.args.map e.ev,v,true⟩::tr) e' h')
 |B6 {rd o vals h v}:pI o vals=some v→BS fs ms (.op rd (.p o) vals h) (.val v h)
 |Kc {rd o vals h x f}:aI o vals=some (x,f)→BS fs ms (.op rd (.a o) vals h) (.val (f h.next) (h.new x))
 |DT {rd o vals h v}:rI o vals h=some v→BS fs ms (.op rd (.r o) vals h) (.val v h)
 |rL {rd o vals h v h1}:eI o vals h=some (v,h1)→BS fs ms (.op rd (.e o) vals h) (.val v h1)
 |SA {rd o vals h v h1}:eK o vals h=some (v,h1)→BS fs ms (.op rd (.e o) vals h) (.val v h1)
 |jH {rd fv args h v h1}:BS fs ms (.cK fv args h) (.val v h1)→BS fs ms (.op rd .call (fv::args) h) (.val v h1)
 |jX {rd name t x args h f v h1}:ms t name=some f→BS fs ms (.call f (x::args) h) (.val v h1)→BS fs ms (.op rd (.invoke name) (.iface t x::args) h) (.val v h1)
 |cK {f first aO args h v h1}:BS fs ms (.call f (first++(args++aO)) h) (.val v h1)→BS fs ms (.cK (.func (.func f) first aO) args h) (.val v h1)
 |yield {L args h cw e ps a b e2 h2 bW x e4 h4 Ee mc}:h.get L=some (.loop 0 cw e ps a b)→args.length=ps.length→
   BS fs ms (.code true a (eW ps args e) h) (.code .normal e2 h2)→h2.get L=some (.loop 0 bW e ps a b)→
   BS fs ms (.code true b e2 (h2.set L (.loop 1 bW e ps a b))) (.code x e4 h4)→(∀v,x≠.panic v)→h4.get L=some (.loop Ee mc e ps a b)→
   BS fs ms (.cK (.yield L) args h) (.val (.bool x.bB) (h4.set L (.loop (bif x.bB then 0 else 2) (cU x) e ps a b)))
 |call {f args h af x e h1 vs}:fs f=some af→args.length≤af.ntmps→BS fs ms (.code false af.body (Env.start af.ntmps args) h) (.code x e h1)→(x=.normal∨x=.ret)→eA e h1 af.results=some vs→
   BS fs ms (.call f args h) (.val (cB vs) h1)
 |zD {rd l1 i l2 e h tr e1 h1 v h2}:BS fs ms (.ops rd l1 e h) (.ops tr e1 h1)→bO i e1=true→BS fs ms (.op rd i.op (i.args.map e1.ev) h1) (.jh v h2)→BS fs ms (.code rd (.ops (l1++i::l2)) e h) (.code (.panic v) e1 h2)
 |tS {rd l1 i win e h tr e1 h1 v h2}:BS fs ms (.ops rd l1 e h) (.ops tr e1 h1)→lF l1 (win.take l1.length) tr h1→lB (l1++[i])=true→bS i.op=true→bO i e1=true→BS fs ms (.op rd i.op (i.args.map e1.ev) h1) (.jh v h2)→
   BS fs ms (.code rd (.bI (l1++[i]) win) e h) (.code (.panic v) e1 h2)
 |nM {rd t x h}:BS fs ms (.op rd .panic [.iface t x] h) (.jh (.iface t x) h)
 |kG {rd fv args h v h1}:BS fs ms (.cK fv args h) (.jh v h1)→BS fs ms (.op rd .call (fv::args) h) (.jh v h1)
 |kQ {rd name t x args h f v h1}:ms t name=some f→BS fs ms (.call f (x::args) h) (.jh v h1)→BS fs ms (.op rd (.invoke name) (.iface t x::args) h) (.jh v h1)
 |nB {f first aO args h v h1}:BS fs ms (.call f (first++(args++aO)) h) (.jh v h1)→BS fs ms (.cK (.func (.func f) first aO) args h) (.jh v h1)
 |tQ {f args h af v e h1}:fs f=some af→args.length≤af.ntmps→BS fs ms (.code false af.body (Env.start af.ntmps args) h) (.code (.panic v) e h1)→BS fs ms (.call f args h) (.jh v h1)
 |rW {f args h af A l1 dst r rest e1 h1 tr e2 h2 g first aO x e3 h3 ag t l2 dJ wV e4 y e5 h5 vs}:fs f=some af→args.length≤af.ntmps→af.body=.seq A (.seq (.ops (l1++[om dst r])) rest)→
   BS fs ms (.code false A (Env.start af.ntmps args) h) (.code .normal e1 h1)→aU A=true→BS fs ms (.ops false l1 e1 h1) (.ops tr e2 h2)→e2.ev r=.func (.func g) first aO→
   BS fs ms (.code false rest (e2.put dst .undef) h2) (.code x e3 h3)→(x=.normal∨x=.ret∨∃v,x=.panic v)→
   fs g=some ag→(first++aO).length≤ag.ntmps→ag.body=.seq (.ops (v9 t::l2)) dJ→ag.results=[]→aU dJ=true→
   BS fs ms (.ops false l2 ((Env.start ag.ntmps (first++aO)).put (some t) (mC x)) h3) (.ops wV e4 h3)→ke l2=true→BS fs ms (.code false dJ e4 h3) (.code y e5 h5)→(y=.normal∨y=.ret)→
   eA e3 h5 af.results=some vs→BS fs ms (.call f args h) (.val (cB vs) h5)
 |iP {g ps a b e h f first aO v h2}:Env.ev e g=AV.func (.func f) first aO→BS fs ms (.call f (first++(.yield h.next::aO)) (h.new (.loop 0 none e ps a b))) (.jh v h2)→BS fs ms (.code false (.rangeFunc g ps a b) e h) (.code (.panic v) e h2)
 |od {L args h cw e ps a id A l1 i l2 e2 h2 bW e3 h3 tr e4 h4 v h5}:h.get L=some (.loop 0 cw e ps a (.block id (.seq A (.ops (l1++i::l2)))))→args.length=ps.length→
   BS fs ms (.code true a (eW ps args e) h) (.code .normal e2 h2)→aU a=true→h2.get L=some (.loop 0 bW e ps a (.block id (.seq A (.ops (l1++i::l2)))))→aU A=true→
   BS fs ms (.code true A e2 (h2.set L (.loop 1 bW e ps a (.block id (.seq A (.ops (l1++i::l2))))))) (.code .normal e3 h3)→BS fs ms (.ops true l1 e3 h3) (.ops tr e4 h4)→bO i e4=true→
   BS fs ms (.op true i.op (i.args.map e4.ev) h4) (.jh v h5)→BS fs ms (.cK (.yield L) args h) (.jh v h5)
 |forget {f args h v H h2}:kV h2 H→(∀b,b<h.next→h.get b≠none→h2.get b=H.get b)→BS fs ms (.call f args h) (.val v H)→BS fs ms (.call f args h) (.val v h2)
 |za {f args h g v u h2}:kV g h→BS fs ms (.call f args g) (.val v u)→h2.next=u.next→(∀b,b<h.next→h2.get b=if(g.get b).isSome=true then u.get b else h.get b)→
   (∀b,h.next≤b→h.get b=none→h2.get b=if b<u.next then u.get b else none)→BS fs ms (.call f args h) (.val v h2)
 |fresh {f args h v h1}:BS fs ms (.call f args ⟨0,.nil⟩) (.val v h1)→bl (fun _=>False) args→v.aW (fun _=>False)→BS fs ms (.call f args h) (.val v h)
 |Ca {rd c e h x e' h' Q}:BS fs ms (.code rd c e h) (.code x e' h')→Q x e' h'→BS fs ms (.any rd c e h) (.post Q)
 |Cb {rd a b e h R Q}:BS fs ms (.any rd a e h) (.post R)→(∀x e1 h1,R x e1 h1→x.bB=false→Q x e1 h1)→(∀e1 h1,R .normal e1 h1→BS fs ms (.any rd b e1 h1) (.post Q))→BS fs ms (.any rd (.seq a b) e h) (.post Q)
 |yS {rd c a b e h t Q}:e.ev c=.bool t→BS fs ms (.any rd (bif t then a else b) e h) (.post Q)→BS fs ms (.any rd (.cond c a b) e h) (.post Q)
 |uZ {rd id c e h R Q}:BS fs ms (.any rd c e h) (.post R)→(∀x e1 h1,R x e1 h1→Q (Dg id x) e1 h1)→BS fs ms (.any rd (.block id c) e h) (.post Q)
 |yT {rd c e h R Q}:BS fs ms (.any rd c e h) (.post R)→(∀x e1 h1,R x e1 h1→x.bB=false→Q x e1 h1)→(∀e1 h1,R .normal e1 h1→BS fs ms (.any rd (.loop c) e1 h1) (.post Q))→BS fs ms (.any rd (.loop c) e h) (.post Q)
 |yU {rd dst args l e h cs Q} (T:AV×Heap→List aK) (E:AV×Heap→Env) (H:AV×Heap→Heap):o5 (args.map e.ev) h=some cs→cs≠[]→
   (∀p∈cs,BS fs ms (.ops rd l (e.put dst p.1) p.2) (.ops (T p) (E p) (H p)))→(∀p∈cs,Q .normal (E p) (H p))→BS fs ms (.any rd (.ops (⟨dst,none,.e .next,args⟩::l)) e h) (.post Q)
 |uD {f args h af v h2 Q}:fs f=some af→args.length≤af.ntmps→BS fs ms (.any false af.body (Env.start af.ntmps args) h) (.post Q)→
   (∀x e h1,Q x e h1→(x=.normal∨x=.ret)∧(∃vs,eA e h1 af.results=some vs∧cB vs=v)∧kV h2 h1∧∀b,b<h.next→h.get b≠none→h2.get b=h1.get b)→BS fs ms (.call f args h) (.val v h2)
end Ads
end Go.Proofs.YtmnolnoeibhjgaaGreat
