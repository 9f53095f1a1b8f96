/-
  The layer 'Vs': the big steps of Ads with rows that nobody writes any more as plain values ('fz'), pointers into them ('fp'), and calls that are run on an empty heap.
-/
import Derived.Test.YtenafeojcgmnhaaAdsEvalX
set_option linter.unusedVariables false
namespace Go.Proofs.Ytenafeojcgmnhaa
namespace Ads
mutual
def AV.cl:AV→Bool
 |.ptr _ _|.sl _ _ _ _ _|.map _|.yield _|.gj _|.rest _ _ _=>false
 |.func fn first aX=>iy first&&iy aX&&(match fn with|.yield _=>false|_=>true)
 |.iface _ v=>v.cl
 |.agg cs=>iy cs
 |.cg vs=>iy vs
 |.fz _ l=>iy l
 |.fp cs _=>iy cs
 |_=>true
def iy:List AV→Bool
 |[]=>true
 |v::vs=>v.cl&&iy vs
end
mutual
def AV.pl:AV→Bool
 |.ptr _ _|.sl _ _ _ _ _|.map _|.yield _|.fz _ _|.fp _ _|.gj _|.rest _ _ _=>false
 |.func fn first aX=>kV first&&kV aX&&(match fn with|.yield _=>false|_=>true)
 |.iface _ v=>v.pl
 |.agg cs=>kV cs
 |.cg vs=>kV vs
 |_=>true
def kV:List AV→Bool
 |[]=>true
 |v::vs=>v.pl&&kV vs
end
def AV.dt(v:AV):Bool:=match v with
 |.ptr _ _|.sl _ _ _ _ _|.map _|.yield _|.rest _ _ _=>true
 |v=>v.pl
def dQ(e:Env):List bG→Bool
 |[]=>true
 |.c _::l=>dQ e l
 |.t i::l=>(Tr.get e i).isSome&&dQ e l
def cT(i:bq)(e:Env):Option Bool:=
 match i.guard with
 |none=>some true
 |some (d,want)=>match Tr.get e d with
  |some (.bool b)=>some (b==want)
  |some _=>some false
  |none=>none
def vQ(e:Env)(h:Heap):qF→Option AV
 |.tmp t=>Tr.get e t
 |.cell a n g=>match Tr.get e a with
  |some (.ptr b o)=>cond g ((h.aO b o n).map .agg) (h.bW b o)
  |_=>none
def js(e:Env)(h:Heap):List qF→Option (List AV)
 |[]=>some []
 |r::rs=>match vQ e h r,js e h rs with
  |some v,some vs=>some (v::vs)
  |_,_=>none
def aj(l:List AV):List AV:=l.flatMap AV.cells
def aU(s:Nat):List AV→Bool
 |[]=>true
 |x::l=>Nat.beq x.cells.length s&&aU s l
def fD(k:Nat)(m:Bool)(h mm len:Nat):Nat:=
 cond (Nat.beq k 3) 3 (cond m (cond (Nat.beq mm h) 2 1) (cond (Nat.beq h len) k (min k 1)))
def vY(size:Nat)(lo hi m:Bool)(k:Nat)(l:List AV)(r:List AV):Option AV:=
 match bounds l.length l.length lo hi m r with
 |some (a,h,mm)=>cond (Nat.beq a l.length&&Nat.beq k 0&&!Nat.beq a 0) none (cond (aU size l) (some (.fz (fD k m h mm l.length) ((l.drop a).take (h-a)))) none)
 |none=>none
def pV(o:pz)(args:List AV):Option AV:=
 match o with
 |.eq k=>match args with
  |[x,y]=>match x with
   |.fz z _=>(match k,y with|.mW,.aN=>some (.bool (Nat.beq z 3))|_,_=>none)
   |.fp _ _=>(match k,y with|.iW,.de=>some (.bool false)|_,_=>none)
   |x=>match y with
    |.fz z _=>(match k,x with|.mW,.aN=>some (.bool (Nat.beq z 3))|_,_=>none)
    |.fp _ _=>(match k,x with|.iW,.de=>some (.bool false)|_,_=>none)
    |y=>(Ce k x y).map .bool
  |_=>none
 |.neq k=>match args with
  |[x,y]=>match x with
   |.fz z _=>(match k,y with|.mW,.aN=>some (.bool !(Nat.beq z 3))|_,_=>none)
   |.fp _ _=>(match k,y with|.iW,.de=>some (.bool true)|_,_=>none)
   |x=>match y with
    |.fz z _=>(match k,x with|.mW,.aN=>some (.bool !(Nat.beq z 3))|_,_=>none)
    |.fp _ _=>(match k,x with|.iW,.de=>some (.bool true)|_,_=>none)
    |y=>(Ce k x y).map fun b=>.bool !b
  |_=>none
 |.oJ=>l1 args fun x=>match x with
  |.fp cs o=>some (.fp cs o)
  |.ptr b o=>some (.ptr b o)
  |_=>none
 |.va off=>l1 args fun x=>match x with
  |.fp cs o=>some (.fp cs (o+off))
  |.ptr b o=>some (.ptr b (o+off))
  |_=>none
 |.ak size=>l2 args fun x i=>match x with
  |.fz _ l=>rJ i fun i=>match l[i]? with
   |some y=>cond (Nat.beq y.cells.length size) (some (.fp y.cells 0)) none
   |none=>none
  |.sl b o len _ _=>rJ i fun i=>cond (Nat.ble (i+1) len) (some (.ptr b (o+i*size))) none
  |_=>none
 |.bV size len=>l2 args fun x i=>match x with
  |.fp cs o=>rJ i fun i=>cond (Nat.ble (i+1) len) (some (.fp cs (o+i*size))) none
  |.ptr b o=>rJ i fun i=>cond (Nat.ble (i+1) len) (some (.ptr b (o+i*size))) none
  |_=>none
 |.dc=>l1 args fun x=>match x with
  |.fz _ l=>some (.int .i64 l.length)
  |.sl _ _ len _ _=>some (.int .i64 len)
  |.aN=>some (.int .i64 0)
  |.rest _ _ _=>some (.int .i64 0)
  |_=>none
 |.slice size lo hi m=>lc args fun x r=>match x with
  |.fz k l=>vY size lo hi m k l r
  |x=>qZ size lo hi m x r
 |o=>Kn o args
def rV(o:BM)(args:List AV)(h:Heap):Option AV:=
 match o with
 |.bW=>l1 args fun x=>match x with
  |.fp cs o=>cs[o]?
  |.ptr b o=>h.bW b o
  |_=>none
 |.aO n=>l1 args fun x=>match x with
  |.fp cs o=>cond (Nat.ble (o+n) cs.length) (some (.agg ((cs.drop o).take n))) none
  |.ptr b o=>(h.aO b o n).map .agg
  |_=>none
 |.toStr=>l1 args fun x=>match x with
  |.fz _ l=>(cS l).map .str
  |x=>rI .toStr [x] h
 |.entry=>none
 |o=>rI o args h
def eC(size:Nat)(h:Heap)(x:AV):Option (Nat×List AV):=
 match x with
 |.fz _ l=>cond (aU size l) (some (l.length,aj l)) none
 |x=>aP size h x
def eV(o:wD)(args:List AV)(h:Heap):Option (AV×Heap):=
 match o with
 |.append size bytes=>l2 args fun s x=>match eC size h x with
  |none=>none
  |some (n,new)=>cond (bE new) (match s with
   |.aN=>cond (Nat.beq n 0) (some (.aN,h))
     (cond (Nat.ble (n*bytes) 140737488355328&&Nat.ble n 9223372036854775807) (some (.sl h.next 0 n n true,h.new (.cells new true size))) none)
   |.fz k l=>cond (Nat.beq n 0) (some (.fz k l,h)) (cond (Nat.beq k 3)
     (cond (Nat.ble (n*bytes) 140737488355328&&Nat.ble n 9223372036854775807) (some (.sl h.next 0 n n true,h.new (.cells new true size))) none)
     (cond (Nat.beq k 2&&Nat.ble ((l.length+n)*bytes) 140737488355328&&Nat.ble (l.length+n) 9223372036854775807&&aU size l)
      (some (.sl h.next 0 (l.length+n) (l.length+n) true,h.new (.cells (aj l++new) true size))) none))
   |.sl b o len cap jC=>cond (Nat.beq n 0&&Nat.ble len cap) (some (.sl b o len cap jC,h)) (cond (Nat.ble (len+n) cap)
     ((h.cW b (o+len*size) new).map fun h=>(.sl b o (len+n) cap jC,h))
     (cond (Nat.ble ((len+n)*bytes) 140737488355328&&Nat.ble (len+n) 9223372036854775807)
      (match h.get b,h.aO b o (len*size) with
      |some (.cells vs wr es),some old=>cond jC
        (cond (wr&&Nat.beq vs.length (o+len*size)&&Nat.beq cap len&&Nat.beq es size) (some (.sl h.next 0 (len+n) (len+n) true,(h.del b).new (.cells (old++new) true size))) none)
        (some (.sl h.next 0 (len+n) (len+n) true,h.new (.cells (old++new) true size)))
      |_,_=>none) none))
   |_=>none) none
 |.copy size=>l2 args fun d x=>match eC size h x with
  |none=>none
  |some (n,new)=>match d with
   |.aN=>some (.int .i64 0,h)
   |.sl b o len _ _=>(h.cW b o (new.take (min n len*size))).map fun h=>(.int .i64 (min n len),h)
   |_=>none
 |.range=>none
 |.next=>none
 |.HD=>none
 |o=>eI o args h
def Tp(o:wD)(args:List AV)(h:Heap):Option (AV×Heap):=
 match o,args with
 |.append size bytes,[.sl b o len cap true,x]=>match eC size h x with
  |none=>none
  |some (n,new)=>match h.get b,h.aO b o (len*size) with
   |some (.cells vs true es),some old=>
    cond (bE new&&(!Nat.beq n 0&&Nat.ble ((len+n)*bytes) 140737488355328&&Nat.ble (len+n) 9223372036854775807)&&(Nat.beq vs.length (o+len*size)&&Nat.beq cap len&&Nat.beq es size))
     (some (.sl h.next 0 (len+n) (len+n) true,(h.set b (.cells vs false es)).new (.cells (old++new) false size))) none
   |_,_=>none
 |_,_=>none
inductive lX(B:Nat→Prop)(g:Heap):AV→AV→Prop where
 |clean {v:AV}:v.cl=true→lX B g v v
 |agg {cs cs':List AV}:cs.length=cs'.length→(∀(i:Nat) (x y:AV),cs[i]?=some x→cs'[i]?=some y→lX B g x y)→lX B g (.agg cs) (.agg cs')
 |cg {cs cs':List AV}:cs.length=cs'.length→(∀(i:Nat) (x y:AV),cs[i]?=some x→cs'[i]?=some y→lX B g x y)→lX B g (.cg cs) (.cg cs')
 |iface {t:Nat} {v v':AV}:lX B g v v'→lX B g (.iface t v) (.iface t v')
 |aN:lX B g .aN (.fz 3 [])
 |func {fn:Fn} {a a' c c':List AV}:a.length=a'.length→(∀(i:Nat) (x y:AV),a[i]?=some x→a'[i]?=some y→lX B g x y)→
   c.length=c'.length→(∀(i:Nat) (x y:AV),c[i]?=some x→c'[i]?=some y→lX B g x y)→lX B g (.func fn a c) (.func fn a' c')
 |ptr {b o base o':Nat} {cs vs:List AV} {wr:Bool} {es:Nat}:B b→g.get b=some (.cells vs wr es)→o=base+o'→base+cs.length≤vs.length→
   (∀(j:Nat) (c y:AV),cs[j]?=some c→vs[base+j]?=some y→lX B g y c)→lX B g (.ptr b o) (.fp cs o')
 |sl {b o len cap:Nat} {op:Bool} {k s:Nat} {l vs:List AV} {wr:Bool} {es:Nat}:B b→g.get b=some (.cells vs wr es)→aU s l=true→len=l.length→o+l.length*s≤vs.length→len≤cap→k≤2→
   (1≤k→op=false)→(2≤k→cap=len)→(∀(i:Nat) (x:AV) (j:Nat) (c y:AV),l[i]?=some x→x.cells[j]?=some c→vs[o+(i*s+j)]?=some y→lX B g y c)→lX B g (.sl b o len cap op) (.fz k l)
def nk(B:Nat→Prop)(g:Heap)(l l':List AV):Prop:=l.length=l'.length∧∀(i:Nat) (x y:AV),l[i]?=some x→l'[i]?=some y→lX B g x y
def gZ:List Nat→Heap→Heap
 |[],g=>g
 |b::l,g=>gZ l (g.del b)
inductive qG(p:Nat→Nat)(n:Nat):AV→AV→Prop where
 |cl {v:AV}:v.cl=true→qG p n v v
 |ptr {b o:Nat}:b<n→qG p n (.ptr b o) (.ptr (p b) o)
 |sl {b o len cap:Nat} {op:Bool}:b<n→qG p n (.sl b o len cap op) (.sl (p b) o len cap op)
 |map {b:Nat}:b<n→qG p n (.map b) (.map (p b))
 |yield {b:Nat}:b<n→qG p n (.yield b) (.yield (p b))
 |iface {t:Nat} {v v':AV}:qG p n v v'→qG p n (.iface t v) (.iface t v')
 |agg {cs cs':List AV}:cs.length=cs'.length→(∀(i:Nat) (x y:AV),cs[i]?=some x→cs'[i]?=some y→qG p n x y)→qG p n (.agg cs) (.agg cs')
 |cg {cs cs':List AV}:cs.length=cs'.length→(∀(i:Nat) (x y:AV),cs[i]?=some x→cs'[i]?=some y→qG p n x y)→qG p n (.cg cs) (.cg cs')
 |func {fn:Fn} {a a' c c':List AV}:a.length=a'.length→(∀(i:Nat) (x y:AV),a[i]?=some x→a'[i]?=some y→qG p n x y)→
   c.length=c'.length→(∀(i:Nat) (x y:AV),c[i]?=some x→c'[i]?=some y→qG p n x y)→qG p n (.func fn a c) (.func fn a' c')
inductive ki(p:Nat→Nat)(n:Nat):cw→cw→Prop where
 |cells {vs vs':List AV} {wr:Bool} {es:Nat}:vs.length=vs'.length→(∀(i:Nat) (x y:AV),vs[i]?=some x→vs'[i]?=some y→qG p n x y)→ki p n (.cells vs wr es) (.cells vs' wr es)
 |map {l l':List (AV×AV)} {bs:List Nat} {c:Nat}:l.length=l'.length→(∀(i:Nat) (x y:AV×AV),l[i]?=some x→l'[i]?=some y→qG p n x.1 y.1∧qG p n x.2 y.2)→ki p n (.map l bs c) (.map l' bs c)
 |loop {st:Nat} {cu:Option AX} {e e':Env} {ps:List Nat} {a b:AC}:(∀i v,Tr.get e i=some v→∃u,Tr.get e' i=some u∧qG p n v u)→ki p n (.loop st cu e ps a b) (.loop st cu e' ps a b)
structure GC(base:Nat)(p:Nat→Nat)(e1:Env)(g1:Heap)(e:Env)(g:Heap):Prop where
 slots:∀i v,Tr.get e i=some v→∃u,Tr.get e1 i=some u∧qG p g.next v u
 LB:∀b x,g.get b=some x→b<g.next∧∃y,g1.get (p b)=some y∧ki p g.next x y
 inj:∀b c,g.get b≠none→g.get c≠none→p b=p c→b=c
 fix:∀b,b<base→p b=b
 next:base≤g.next
def lF(P:Nat→Bool):List bG→Bool
 |[]=>true
 |.c _::l=>lF P l
 |.t j::l=>P j&&lF P l
def M9:List AV→Bool
 |[.fp _ _]=>true
 |_=>false
def AJ(P:Nat→Bool)(i:bq)(m:aK)(u:Nat):Bool:=match i.dst with
 |none=>P u
 |some d=>cond (Nat.beq u d) (match i.op with
  |.p _=>lF P i.args
  |.r _=>lF P i.args&&M9 m.vals
  |_=>false) (P u)
def Ip(n:Nat)(v:AV):Bool:=match v with
 |.ptr b _=>Nat.ble (b+1) n
 |.sl b _ _ _ _=>Nat.ble (b+1) n
 |v=>v.pl
def zE(n:Nat):List AV→Bool
 |[]=>true
 |v::l=>Ip n v&&zE n l
def yh(g:Heap):(Nat→Bool)→List bq→List aK→Nat→Prop
 |P,i::_,m::_,0=>(lF P i.args||zE g.next m.vals)=true∧m.on=true∧((m.v.dt=true∧∀o,i.op=.r o→rV o m.vals g=some m.v)∨∃cs o1,m.vals=[.fp cs o1])
 |P,i::l,m::tr,n+1=>yh g (AJ P i m) l tr n
 |_,_,_,_=>False
def yl(l:List bq)(win:List (List Nat))(tr:List aK)(g1:Heap):Prop:=
 ∀(k:Nat) i cs m o,l[k]?=some i→win[k]?=some cs→tr[k]?=some m→i.op=.r o→m.on=true→∀c∈cs,(c≤k∧yh (dP (tr.drop c) g1) (fun _=>true) (l.drop c) (tr.drop c) (k-c))∨
  (k≤c∧c<tr.length∧((m.v.dt=true∧rV o m.vals (dP (tr.drop c) g1)=some m.v)∨∃cs o1,m.vals=[.fp cs o1]))
inductive VS(fs:Nat→Option aC)(ms:Nat→String→Option Nat):Nat→Task→jb→Prop where
 |skip {B rd e h}:VS fs ms B (.code rd .skip e h) (.code .normal e h)
 |ops {B rd l e h tr e' h'}:VS fs ms B (.ops rd l e h) (.ops tr e' h')→VS fs ms B (.code rd (.ops l) e h) (.code .normal e' h')
 |bN {B rd l win e h tr e' h'}:win.all (·.isEmpty)=true→VS fs ms B (.ops rd l e h) (.ops tr e' h')→VS fs ms B (.code rd (.bN l win) e h) (.code .normal e' h')
 |KS {B rd l win e h tr e' h'}:yl l win tr h'→VS fs ms B (.ops rd l e h) (.ops tr e' h')→VS fs ms B (.code rd (.bN l win) e h) (.code .normal e' h')
 |w7 {B rd a b e h e1 h1 r}:VS fs ms B (.code rd a e h) (.code .normal e1 h1)→VS fs ms B (.code rd b e1 h1) r→VS fs ms B (.code rd (.seq a b) e h) r
 |n9 {B rd a b e h x e1 h1}:VS fs ms B (.code rd a e h) (.code x e1 h1)→x.bI=false→VS fs ms B (.code rd (.seq a b) e h) (.code x e1 h1)
 |cond {B rd c a b e h t r}:dQ e [c]=true→e.ev c=.bool t→VS fs ms B (.code rd (bif t then a else b) e h) r→VS fs ms B (.code rd (.cond c a b) e h) r
 |nv {B rd id c e h e1 h1}:VS fs ms B (.code rd c e h) (.code (.exit id) e1 h1)→VS fs ms B (.code rd (.block id c) e h) (.code .normal e1 h1)
 |fR {B rd id c e h x e1 h1}:VS fs ms B (.code rd c e h) (.code x e1 h1)→(∀i,x=.exit i→i≠id)→VS fs ms B (.code rd (.block id c) e h) (.code x e1 h1)
 |lI {B rd c e h e1 h1 r}:VS fs ms B (.code rd c e h) (.code .normal e1 h1)→VS fs ms B (.code rd (.loop c) e1 h1) r→VS fs ms B (.code rd (.loop c) e h) r
 |cQ {B rd c e h x e1 h1}:VS fs ms B (.code rd c e h) (.code x e1 h1)→x.bI=false→VS fs ms B (.code rd (.loop c) e h) (.code x e1 h1)
 |exit {B rd id e h}:VS fs ms B (.code rd (.exit id) e h) (.code (.exit id) e h)
 |ret {B rd e h}:VS fs ms B (.code rd .ret e h) (.code .ret e h)
 |rangeFunc {B g ps a b e h f first aX v h2 st x}:dQ e [g]=true→Env.ev e g=AV.func (.func f) first aX→
   VS fs ms B (.call f (first++(.yield h.next::aX)) (h.new (.loop 0 none e ps a b))) (.val v h2)→
   h2.get h.next=some (.loop st (dH x) e ps a b)→st≠1→(∀v,x≠.panic v)→
   VS fs ms B (.code false (.rangeFunc g ps a b) e h) (.code x e (h2.set h.next (.loop 3 (dH x) e ps a b)))
 |Gs {B rd c e h i v v' bs r}:Tr.get e i=some v→lX (· ∈bs) h v v'→VS fs ms B (.code rd c (Tr.set e i v') (gZ bs h)) r→VS fs ms B (.code rd c e h) r
 |drop {B rd c e h e' r}:(∀i v,Tr.get e' i=some v→Tr.get e i=some v)→VS fs ms B (.code rd c e' h) r→VS fs ms B (.code rd c e h) r
 |gc {B rd c e h p e' h' r}:GC B p e h e' h'→VS fs ms B (.code rd c e' h') r→VS fs ms B (.code rd c e h) r
 |nil {B rd e h}:VS fs ms B (.ops rd [] e h) (.ops [] e h)
 |off {B rd i l e h tr e' h'}:cT i e=some false→VS fs ms B (.ops rd l (e.put i.dst .undef) h) (.ops tr e' h')→VS fs ms B (.ops rd (i::l) e h) (.ops (⟨h,i.args.map e.ev,.undef,false⟩::tr) e' h')
 |on {B rd i l e h v h1 tr e' h'}:cT i e=some true→dQ e i.args=true→VS fs ms B (.op rd i.op (i.args.map e.ev) h) (.val v h1)→VS fs ms B (.ops rd l (e.put i.dst v) h1) (.ops tr e' h')→
   VS fs ms B (.ops rd (i::l) e h) (.ops (⟨h,i.args.map e.ev,v,true⟩::tr) e' h')
 |BV {B rd o vals h v}:pV o vals=some v→VS fs ms B (.op rd (.p o) vals h) (.val v h)
 |Kk {B rd o vals h x f}:aI o vals=some (x,f)→VS fs ms B (.op rd (.a o) vals h) (.val (f h.next) (h.new x))
 |D1 {B rd o vals h v}:rV o vals h=some v→VS fs ms B (.op rd (.r o) vals h) (.val v h)
 |IU {B rd o vals h v h1}:eV o vals h=some (v,h1)→VS fs ms B (.op rd (.e o) vals h) (.val v h1)
 |Q0 {B rd o vals h v h1}:Tp o vals h=some (v,h1)→VS fs ms B (.op rd (.e o) vals h) (.val v h1)
 |lJ {B rd fv args h v h1}:VS fs ms B (.cH fv args h) (.val v h1)→VS fs ms B (.op rd .call (fv::args) h) (.val v h1)
 |j7 {B rd name t x args h f v h1}:ms t name=some f→VS fs ms B (.call f (x::args) h) (.val v h1)→VS fs ms B (.op rd (.invoke name) (.iface t x::args) h) (.val v h1)
 |cH {B f first aX args h v h1}:VS fs ms B (.call f (first++(args++aX)) h) (.val v h1)→VS fs ms B (.cH (.func (.func f) first aX) args h) (.val v h1)
 |yield {B L args h cu e ps a b e2 h2 cm x e4 h4 It oN}:h.get L=some (.loop 0 cu e ps a b)→args.length=ps.length→
   VS fs ms h.next (.code true a (fY ps args e) h) (.code .normal e2 h2)→h2.get L=some (.loop 0 cm e ps a b)→
   VS fs ms h.next (.code true b e2 (h2.set L (.loop 1 cm e ps a b))) (.code x e4 h4)→(∀v,x≠.panic v)→h4.get L=some (.loop It oN e ps a b)→
   VS fs ms B (.cH (.yield L) args h) (.val (.bool x.bI) (h4.set L (.loop (bif x.bI then 0 else 2) (dH x) e ps a b)))
 |call {B f args h af x e h1 vs}:fs f=some af→args.length≤af.ntmps→VS fs ms h.next (.code false af.body (Env.start af.ntmps args) h) (.code x e h1)→(x=.normal∨x=.ret)→js e h1 af.results=some vs→
   VS fs ms B (.call f args h) (.val (cR vs) h1)
 |jM {B g ps a b e h f first aX v h2}:dQ e [g]=true→Env.ev e g=AV.func (.func f) first aX→VS fs ms B (.call f (first++(.yield h.next::aX)) (h.new (.loop 0 none e ps a b))) (.jD v h2)→VS fs ms B (.code false (.rangeFunc g ps a b) e h) (.code (.panic v) e h2)
 |pe {B L args h cu e ps a id A l1 i l2 e2 h2 cm e3 h3 tr e4 h4 v h5}:h.get L=some (.loop 0 cu e ps a (.block id (.seq A (.ops (l1++i::l2)))))→args.length=ps.length→
   VS fs ms h.next (.code true a (fY ps args e) h) (.code .normal e2 h2)→aY a=true→h2.get L=some (.loop 0 cm e ps a (.block id (.seq A (.ops (l1++i::l2)))))→aY A=true→
   VS fs ms h.next (.code true A e2 (h2.set L (.loop 1 cm e ps a (.block id (.seq A (.ops (l1++i::l2))))))) (.code .normal e3 h3)→VS fs ms h.next (.ops true l1 e3 h3) (.ops tr e4 h4)→cT i e4=some true→dQ e4 i.args=true→
   VS fs ms h.next (.op true i.op (i.args.map e4.ev) h4) (.jD v h5)→VS fs ms B (.cH (.yield L) args h) (.jD v h5)
 |E7 {B rd l1 i l2 e h tr e1 h1 v h2}:VS fs ms B (.ops rd l1 e h) (.ops tr e1 h1)→cT i e1=some true→dQ e1 i.args=true→VS fs ms B (.op rd i.op (i.args.map e1.ev) h1) (.jD v h2)→VS fs ms B (.code rd (.ops (l1++i::l2)) e h) (.code (.panic v) e1 h2)
 |xA {B rd l1 i win e h tr e1 h1 v h2}:VS fs ms B (.ops rd l1 e h) (.ops tr e1 h1)→(win.all (·.isEmpty)=true∨yl l1 (win.take l1.length) tr h1)→nD (l1++[i])=true→bT i.op=true→cT i e1=some true→dQ e1 i.args=true→
   VS fs ms B (.op rd i.op (i.args.map e1.ev) h1) (.jD v h2)→VS fs ms B (.code rd (.bN (l1++[i]) win) e h) (.code (.panic v) e1 h2)
 |pW {B rd t x h}:x.pl=true→VS fs ms B (.op rd .panic [.iface t x] h) (.jD (.iface t x) h)
 |nE {B rd fv args h v h1}:VS fs ms B (.cH fv args h) (.jD v h1)→VS fs ms B (.op rd .call (fv::args) h) (.jD v h1)
 |kT {B rd name t x args h f v h1}:ms t name=some f→VS fs ms B (.call f (x::args) h) (.jD v h1)→VS fs ms B (.op rd (.invoke name) (.iface t x::args) h) (.jD v h1)
 |om {B f first aX args h v h1}:VS fs ms B (.call f (first++(args++aX)) h) (.jD v h1)→VS fs ms B (.cH (.func (.func f) first aX) args h) (.jD v h1)
 |uQ {B f args h af v e h1}:fs f=some af→args.length≤af.ntmps→VS fs ms h.next (.code false af.body (Env.start af.ntmps args) h) (.code (.panic v) e h1)→VS fs ms B (.call f args h) (.jD v h1)
 |tP {B f args h af A l1 dst r rest e1 h1 tr e2 h2 g first aX x e3 h3 ag t l2 eD ye e4 y e5 h5 vs}:fs f=some af→args.length≤af.ntmps→af.body=.seq A (.seq (.ops (l1++[ox dst r])) rest)→
   VS fs ms h.next (.code false A (Env.start af.ntmps args) h) (.code .normal e1 h1)→aY A=true→VS fs ms h.next (.ops false l1 e1 h1) (.ops tr e2 h2)→dQ e2 [r]=true→e2.ev r=.func (.func g) first aX→
   VS fs ms h2.next (.code false rest (e2.put dst .undef) h2) (.code x e3 h3)→(x=.normal∨x=.ret∨∃v,x=.panic v)→(nM x).pl=true→
   fs g=some ag→(first++aX).length≤ag.ntmps→ag.body=.seq (.ops (w6 t::l2)) eD→ag.results=[]→aY eD=true→
   VS fs ms h3.next (.ops false l2 ((Env.start ag.ntmps (first++aX)).put (some t) (nM x)) h3) (.ops ye e4 h3)→lM l2=true→VS fs ms h3.next (.code false eD e4 h3) (.code y e5 h5)→(y=.normal∨y=.ret)→
   js e3 h5 af.results=some vs→VS fs ms B (.call f args h) (.val (cR vs) h5)
 |pure {B f args h v g v'}:VS fs ms B (.call f args ⟨0,.nil⟩) (.val v g)→iy args=true→lX (fun _=>True) g v v'→v'.cl=true→VS fs ms B (.call f args h) (.val v' h)
 |Po {B f args args' h bs v h1}:nk (· ∈bs) h args args'→VS fs ms B (.call f args' (gZ bs h)) (.val v h1)→VS fs ms B (.call f args h) (.val v h1)
 |Pp {B f args h bs v v' h1}:VS fs ms B (.call f args h) (.val v h1)→lX (· ∈bs) h1 v v'→VS fs ms B (.call f args h) (.val v' (gZ bs h1))
 |closed {B f args h v h1}:BS fs ms (.call f args ⟨0,.nil⟩) (.val v h1)→kV args=true→v.pl=true→VS fs ms B (.call f args h) (.val v h)
 |view {B f args args' h v g}:nk (fun _=>True) h args args'→iy args'=true→VS fs ms B (.call f args' ⟨0,.nil⟩) (.val v g)→v.pl=true→VS fs ms B (.call f args h) (.val v h)
 |Lt {B f args args' h g b o len cap op vs wr es}:nk (fun _=>True) h args args'→iy args'=true→VS fs ms B (.call f args' ⟨0,.nil⟩) (.val (.sl b o len cap op) g)→g.get b=some (.cells vs wr es)→kV vs=true→
   VS fs ms B (.call f args h) (.val (.sl h.next o len cap op) (h.new (.cells vs wr es)))
end Ads
end Go.Proofs.Ytenafeojcgmnhaa
