/-
  The layer 'Vs': the big steps of Ads with rows that nobody writes any more as plain values ('fz'), pointers into them ('fp'), and calls that are run on an empty heap.
-/
import Derived.Test.YtnlcabhfkpafmaaGreatAdsEvalX
set_option linter.unusedVariables false
namespace Go.Proofs.YtnlcabhfkpafmaaGreat
namespace Ads
mutual
def AV.cl:AV→Bool
 |.ptr _ _|.sl _ _ _ _ _|.map _|.yield _|.gY _|.rest _ _ _=>false
 |.func fn first aM=>cD first&&cD aM&&(match fn with|.yield _=>false|_=>true)
 |.iface _ v=>v.cl
 |.agg cs=>cD cs
 |.cq vs=>cD vs
 |.fz _ l=>cD l
 |.fp cs _=>cD cs
 |_=>true
def cD:List AV→Bool
 |[]=>true
 |v::vs=>v.cl&&cD vs
end
mutual
def AV.pl:AV→Bool
 |.ptr _ _|.sl _ _ _ _ _|.map _|.yield _|.fz _ _|.fp _ _|.gY _|.rest _ _ _=>false
 |.func fn first aM=>mc first&&mc aM&&(match fn with|.yield _=>false|_=>true)
 |.iface _ v=>v.pl
 |.agg cs=>mc cs
 |.cq vs=>mc vs
 |_=>true
def mc:List AV→Bool
 |[]=>true
 |v::vs=>v.pl&&mc vs
end
def AV.dt(v:AV):Bool:=match v with
 |.ptr _ _|.sl _ _ _ _ _|.map _|.yield _|.rest _ _ _=>true
 |v=>v.pl
def dJ(e:Env):List bH→Bool
 |[]=>true
 |.c _::l=>dJ e l
 |.t i::l=>(Tr.get e i).isSome&&dJ e l
def cT(i:bE)(e:Env):Option Bool:=
 match i.guard with
 |none=>some true
 |some (d,want)=>match Tr.get e d with
  |some (.bool b)=>some (b==want)
  |some _=>some false
  |none=>none
def n8(e:Env)(h:Heap):ta→Option AV
 |.tmp t=>Tr.get e t
 |.cell a n g=>match Tr.get e a with
  |some (.ptr b o)=>cond g ((h.aZ b o n).map .agg) (h.ck b o)
  |_=>none
def dH(e:Env)(h:Heap):List ta→Option (List AV)
 |[]=>some []
 |r::rs=>match n8 e h r,dH e h rs with
  |some v,some vs=>some (v::vs)
  |_,_=>none
def aa(l:List AV):List AV:=l.flatMap AV.cells
def aO(s:Nat):List AV→Bool
 |[]=>true
 |x::l=>Nat.beq x.cells.length s&&aO s l
def fu(k:Nat)(m:Bool)(h mm len:Nat):Nat:=
 cond (Nat.beq k 3) 3 (cond m (cond (Nat.beq mm h) 2 1) (cond (Nat.beq h len) k (min k 1)))
def wW(size:Nat)(lo hi m:Bool)(k:Nat)(l:List AV)(r:List AV):Option AV:=
 match bounds l.length l.length lo hi m r with
 |some (a,h,mm)=>cond (Nat.beq a l.length&&Nat.beq k 0&&!Nat.beq a 0) none (cond (aO size l) (some (.fz (fu k m h mm l.length) ((l.drop a).take (h-a)))) none)
 |none=>none
def pV(o:qx)(args:List AV):Option AV:=
 match o with
 |.eq k=>match args with
  |[x,y]=>match x with
   |.fz z _=>(match k,y with|.lR,.aL=>some (.bool (Nat.beq z 3))|_,_=>none)
   |.fp _ _=>(match k,y with|.cQ,.aQ=>some (.bool false)|_,_=>none)
   |x=>match y with
    |.fz z _=>(match k,x with|.lR,.aL=>some (.bool (Nat.beq z 3))|_,_=>none)
    |.fp _ _=>(match k,x with|.cQ,.aQ=>some (.bool false)|_,_=>none)
    |y=>(Ch k x y).map .bool
  |_=>none
 |.neq k=>match args with
  |[x,y]=>match x with
   |.fz z _=>(match k,y with|.lR,.aL=>some (.bool !(Nat.beq z 3))|_,_=>none)
   |.fp _ _=>(match k,y with|.cQ,.aQ=>some (.bool true)|_,_=>none)
   |x=>match y with
    |.fz z _=>(match k,x with|.lR,.aL=>some (.bool !(Nat.beq z 3))|_,_=>none)
    |.fp _ _=>(match k,x with|.cQ,.aQ=>some (.bool true)|_,_=>none)
    |y=>(Ch k x y).map fun b=>.bool !b
  |_=>none
 |.o5=>l1 args fun x=>match x with
  |.fp cs o=>some (.fp cs o)
  |.ptr b o=>some (.ptr b o)
  |_=>none
 |.vH off=>l1 args fun x=>match x with
  |.fp cs o=>some (.fp cs (o+off))
  |.ptr b o=>some (.ptr b (o+off))
  |_=>none
 |.az size=>l2 args fun x i=>match x with
  |.fz _ l=>tn i fun i=>match l[i]? with
   |some y=>cond (Nat.beq y.cells.length size) (some (.fp y.cells 0)) none
   |none=>none
  |.sl b o len _ _=>tn i fun i=>cond (Nat.ble (i+1) len) (some (.ptr b (o+i*size))) none
  |_=>none
 |.kC size len=>l2 args fun x i=>match x with
  |.fp cs o=>tn i fun i=>cond (Nat.ble (i+1) len) (some (.fp cs (o+i*size))) none
  |.ptr b o=>tn i fun i=>cond (Nat.ble (i+1) len) (some (.ptr b (o+i*size))) none
  |_=>none
 |.bL=>l1 args fun x=>match x with
  |.fz _ l=>some (.int .i64 l.length)
  |.sl _ _ len _ _=>some (.int .i64 len)
  |.aL=>some (.int .i64 0)
  |.rest _ _ _=>some (.int .i64 0)
  |_=>none
 |.slice size lo hi m=>lc args fun x r=>match x with
  |.fz k l=>wW size lo hi m k l r
  |x=>lS size lo hi m x r
 |o=>ZH o args
def rV(o:DL)(args:List AV)(h:Heap):Option AV:=
 match o with
 |.ck=>l1 args fun x=>match x with
  |.fp cs o=>cs[o]?
  |.ptr b o=>h.ck b o
  |_=>none
 |.aZ n=>l1 args fun x=>match x with
  |.fp cs o=>cond (Nat.ble (o+n) cs.length) (some (.agg ((cs.drop o).take n))) none
  |.ptr b o=>(h.aZ b o n).map .agg
  |_=>none
 |.toStr=>l1 args fun x=>match x with
  |.fz _ l=>(cR l).map .str
  |x=>rI .toStr [x] h
 |.entry=>none
 |o=>rI o args h
def dm(size:Nat)(h:Heap)(x:AV):Option (Nat×List AV):=
 match x with
 |.fz _ l=>cond (aO size l) (some (l.length,aa l)) none
 |x=>aW size h x
def eV(o:Cp)(args:List AV)(h:Heap):Option (AV×Heap):=
 match o with
 |.append size bytes=>l2 args fun s x=>match dm size h x with
  |none=>none
  |some (n,new)=>cond (bA new) (match s with
   |.aL=>cond (Nat.beq n 0) (some (.aL,h))
     (cond (Nat.ble (n*bytes) 140737488355328&&Nat.ble n 9223372036854775807) (some (.sl h.next 0 n n true,h.new (.cells new true size))) none)
   |.fz k l=>cond (Nat.beq n 0) (some (.fz k l,h)) (cond (Nat.beq k 3)
     (cond (Nat.ble (n*bytes) 140737488355328&&Nat.ble n 9223372036854775807) (some (.sl h.next 0 n n true,h.new (.cells new true size))) none)
     (cond (Nat.beq k 2&&Nat.ble ((l.length+n)*bytes) 140737488355328&&Nat.ble (l.length+n) 9223372036854775807&&aO size l)
      (some (.sl h.next 0 (l.length+n) (l.length+n) true,h.new (.cells (aa l++new) true size))) none))
   |.sl b o len cap lZ=>cond (Nat.beq n 0&&Nat.ble len cap) (some (.sl b o len cap lZ,h)) (cond (Nat.ble (len+n) cap)
     ((h.fy b (o+len*size) new).map fun h=>(.sl b o (len+n) cap lZ,h))
     (cond (Nat.ble ((len+n)*bytes) 140737488355328&&Nat.ble (len+n) 9223372036854775807)
      (match h.get b,h.aZ b o (len*size) with
      |some (.cells vs wr es),some old=>cond lZ
        (cond (wr&&Nat.beq vs.length (o+len*size)&&Nat.beq cap len&&Nat.beq es size) (some (.sl h.next 0 (len+n) (len+n) true,(h.del b).new (.cells (old++new) true size))) none)
        (some (.sl h.next 0 (len+n) (len+n) true,h.new (.cells (old++new) true size)))
      |_,_=>none) none))
   |_=>none) none
 |.copy size=>l2 args fun d x=>match dm size h x with
  |none=>none
  |some (n,new)=>match d with
   |.aL=>some (.int .i64 0,h)
   |.sl b o len _ _=>(h.fy b o (new.take (min n len*size))).map fun h=>(.int .i64 (min n len),h)
   |_=>none
 |.range=>none
 |.next=>none
 |.NK=>none
 |o=>eI o args h
def Yr(o:Cp)(args:List AV)(h:Heap):Option (AV×Heap):=
 match o,args with
 |.append size bytes,[.sl b o len cap true,x]=>match dm size h x with
  |none=>none
  |some (n,new)=>match h.get b,h.aZ b o (len*size) with
   |some (.cells vs true es),some old=>
    cond (bA new&&(!Nat.beq n 0&&Nat.ble ((len+n)*bytes) 140737488355328&&Nat.ble (len+n) 9223372036854775807)&&(Nat.beq vs.length (o+len*size)&&Nat.beq cap len&&Nat.beq es size))
     (some (.sl h.next 0 (len+n) (len+n) true,(h.set b (.cells vs false es)).new (.cells (old++new) false size))) none
   |_,_=>none
 |_,_=>none
inductive ny(B:Nat→Prop)(g:Heap):AV→AV→Prop where
 |clean {v:AV}:v.cl=true→ny B g v v
 |agg {cs cs':List AV}:cs.length=cs'.length→(∀(i:Nat) (x y:AV),cs[i]?=some x→cs'[i]?=some y→ny B g x y)→ny B g (.agg cs) (.agg cs')
 |cq {cs cs':List AV}:cs.length=cs'.length→(∀(i:Nat) (x y:AV),cs[i]?=some x→cs'[i]?=some y→ny B g x y)→ny B g (.cq cs) (.cq cs')
 |iface {t:Nat} {v v':AV}:ny B g v v'→ny B g (.iface t v) (.iface t v')
 |aL:ny B g .aL (.fz 3 [])
 |func {fn:Fn} {a a' c c':List AV}:a.length=a'.length→(∀(i:Nat) (x y:AV),a[i]?=some x→a'[i]?=some y→ny B g x y)→
   c.length=c'.length→(∀(i:Nat) (x y:AV),c[i]?=some x→c'[i]?=some y→ny B g x y)→ny B g (.func fn a c) (.func fn a' c')
 |ptr {b o base o':Nat} {cs vs:List AV} {wr:Bool} {es:Nat}:B b→g.get b=some (.cells vs wr es)→o=base+o'→base+cs.length≤vs.length→
   (∀(j:Nat) (c y:AV),cs[j]?=some c→vs[base+j]?=some y→ny B g y c)→ny B g (.ptr b o) (.fp cs o')
 |sl {b o len cap:Nat} {op:Bool} {k s:Nat} {l vs:List AV} {wr:Bool} {es:Nat}:B b→g.get b=some (.cells vs wr es)→aO s l=true→len=l.length→o+l.length*s≤vs.length→len≤cap→k≤2→
   (1≤k→op=false)→(2≤k→cap=len)→(∀(i:Nat) (x:AV) (j:Nat) (c y:AV),l[i]?=some x→x.cells[j]?=some c→vs[o+(i*s+j)]?=some y→ny B g y c)→ny B g (.sl b o len cap op) (.fz k l)
def qR(B:Nat→Prop)(g:Heap)(l l':List AV):Prop:=l.length=l'.length∧∀(i:Nat) (x y:AV),l[i]?=some x→l'[i]?=some y→ny B g x y
def fh:List Nat→Heap→Heap
 |[],g=>g
 |b::l,g=>fh l (g.del b)
inductive uH(p:Nat→Nat)(n:Nat):AV→AV→Prop where
 |cl {v:AV}:v.cl=true→uH p n v v
 |ptr {b o:Nat}:b<n→uH p n (.ptr b o) (.ptr (p b) o)
 |sl {b o len cap:Nat} {op:Bool}:b<n→uH p n (.sl b o len cap op) (.sl (p b) o len cap op)
 |map {b:Nat}:b<n→uH p n (.map b) (.map (p b))
 |yield {b:Nat}:b<n→uH p n (.yield b) (.yield (p b))
 |iface {t:Nat} {v v':AV}:uH p n v v'→uH p n (.iface t v) (.iface t v')
 |agg {cs cs':List AV}:cs.length=cs'.length→(∀(i:Nat) (x y:AV),cs[i]?=some x→cs'[i]?=some y→uH p n x y)→uH p n (.agg cs) (.agg cs')
 |cq {cs cs':List AV}:cs.length=cs'.length→(∀(i:Nat) (x y:AV),cs[i]?=some x→cs'[i]?=some y→uH p n x y)→uH p n (.cq cs) (.cq cs')
 |func {fn:Fn} {a a' c c':List AV}:a.length=a'.length→(∀(i:Nat) (x y:AV),a[i]?=some x→a'[i]?=some y→uH p n x y)→
   c.length=c'.length→(∀(i:Nat) (x y:AV),c[i]?=some x→c'[i]?=some y→uH p n x y)→uH p n (.func fn a c) (.func fn a' c')
inductive xh(p:Nat→Nat)(n:Nat):dD→dD→Prop where
 |cells {vs vs':List AV} {wr:Bool} {es:Nat}:vs.length=vs'.length→(∀(i:Nat) (x y:AV),vs[i]?=some x→vs'[i]?=some y→uH p n x y)→xh p n (.cells vs wr es) (.cells vs' wr es)
 |map {l l':List (AV×AV)} {bs:List Nat} {c:Nat}:l.length=l'.length→(∀(i:Nat) (x y:AV×AV),l[i]?=some x→l'[i]?=some y→uH p n x.1 y.1∧uH p n x.2 y.2)→xh p n (.map l bs c) (.map l' bs c)
 |loop {st:Nat} {fZ:Option AX} {e e':Env} {ps:List Nat} {a b:AC}:(∀i v,Tr.get e i=some v→∃u,Tr.get e' i=some u∧uH p n v u)→xh p n (.loop st fZ e ps a b) (.loop st fZ e' ps a b)
structure GC(base:Nat)(p:Nat→Nat)(e1:Env)(g1:Heap)(e:Env)(g:Heap):Prop where
 slots:∀i v,Tr.get e i=some v→∃u,Tr.get e1 i=some u∧uH p g.next v u
 P9:∀b x,g.get b=some x→b<g.next∧∃y,g1.get (p b)=some y∧xh p g.next x y
 inj:∀b c,g.get b≠none→g.get c≠none→p b=p c→b=c
 fix:∀b,b<base→p b=b
 next:base≤g.next
def lN(P:Nat→Bool):List bH→Bool
 |[]=>true
 |.c _::l=>lN P l
 |.t j::l=>P j&&lN P l
def Rs:List AV→Bool
 |[.fp _ _]=>true
 |_=>false
def A9(P:Nat→Bool)(i:bE)(m:aN)(u:Nat):Bool:=match i.dst with
 |none=>P u
 |some d=>cond (Nat.beq u d) (match i.op with
  |.p _=>lN P i.args
  |.r _=>lN P i.args&&Rs m.vals
  |_=>false) (P u)
def Dz(n:Nat)(v:AV):Bool:=match v with
 |.ptr b _=>Nat.ble (b+1) n
 |.sl b _ _ _ _=>Nat.ble (b+1) n
 |v=>v.pl
def rK(n:Nat):List AV→Bool
 |[]=>true
 |v::l=>Dz n v&&rK n l
def yZ(g:Heap):(Nat→Bool)→List bE→List aN→Nat→Prop
 |P,i::_,m::_,0=>(lN P i.args||rK g.next m.vals)=true∧m.on=true∧((m.v.dt=true∧∀o,i.op=.r o→rV o m.vals g=some m.v)∨∃cs o1,m.vals=[.fp cs o1])
 |P,i::l,m::tr,n+1=>yZ g (A9 P i m) l tr n
 |_,_,_,_=>False
def y5(l:List bE)(win:List (List Nat))(tr:List aN)(g1:Heap):Prop:=
 ∀(k:Nat) i cs m o,l[k]?=some i→win[k]?=some cs→tr[k]?=some m→i.op=.r o→m.on=true→∀c∈cs,(c≤k∧yZ (dV (tr.drop c) g1) (fun _=>true) (l.drop c) (tr.drop c) (k-c))∨
  (k≤c∧c<tr.length∧((m.v.dt=true∧rV o m.vals (dV (tr.drop c) g1)=some m.v)∨∃cs o1,m.vals=[.fp cs o1]))
inductive VS(fs:Nat→Option an)(ms:Nat→String→Option Nat):Nat→Task→SE→Prop where
 |skip {B rd e h}:VS fs ms B (.code rd .skip e h) (.code .normal e h)
 |ops {B rd l e h tr e' h'}:VS fs ms B (.ops rd l e h) (.ops tr e' h')→VS fs ms B (.code rd (.ops l) e h) (.code .normal e' h')
 |cn {B rd l win e h tr e' h'}:win.all (·.isEmpty)=true→VS fs ms B (.ops rd l e h) (.ops tr e' h')→VS fs ms B (.code rd (.cn l win) e h) (.code .normal e' h')
 |Pb {B rd l win e h tr e' h'}:y5 l win tr h'→VS fs ms B (.ops rd l e h) (.ops tr e' h')→VS fs ms B (.code rd (.cn l win) e h) (.code .normal e' h')
 |Dy {B rd a b e h e1 h1 r}:VS fs ms B (.code rd a e h) (.code .normal e1 h1)→VS fs ms B (.code rd b e1 h1) r→VS fs ms B (.code rd (.seq a b) e h) r
 |tU {B rd a b e h x e1 h1}:VS fs ms B (.code rd a e h) (.code x e1 h1)→x.cB=false→VS fs ms B (.code rd (.seq a b) e h) (.code x e1 h1)
 |cond {B rd c a b e h t r}:dJ e [c]=true→e.ev c=.bool t→VS fs ms B (.code rd (bif t then a else b) e h) r→VS fs ms B (.code rd (.cond c a b) e h) r
 |tg {B rd id c e h e1 h1}:VS fs ms B (.code rd c e h) (.code (.exit id) e1 h1)→VS fs ms B (.code rd (.block id c) e h) (.code .normal e1 h1)
 |kz {B rd id c e h x e1 h1}:VS fs ms B (.code rd c e h) (.code x e1 h1)→(∀i,x=.exit i→i≠id)→VS fs ms B (.code rd (.block id c) e h) (.code x e1 h1)
 |uv {B rd c e h e1 h1 r}:VS fs ms B (.code rd c e h) (.code .normal e1 h1)→VS fs ms B (.code rd (.loop c) e1 h1) r→VS fs ms B (.code rd (.loop c) e h) r
 |iB {B rd c e h x e1 h1}:VS fs ms B (.code rd c e h) (.code x e1 h1)→x.cB=false→VS fs ms B (.code rd (.loop c) e h) (.code x e1 h1)
 |exit {B rd id e h}:VS fs ms B (.code rd (.exit id) e h) (.code (.exit id) e h)
 |ret {B rd e h}:VS fs ms B (.code rd .ret e h) (.code .ret e h)
 |rangeFunc {B g ps a b e h f first aM v h2 st x}:dJ e [g]=true→Env.ev e g=AV.func (.func f) first aM→
   VS fs ms B (.call f (first++(.yield h.next::aM)) (h.new (.loop 0 none e ps a b))) (.val v h2)→
   h2.get h.next=some (.loop st (dO x) e ps a b)→st≠1→(∀v,x≠.panic v)→
   VS fs ms B (.code false (.rangeFunc g ps a b) e h) (.code x e (h2.set h.next (.loop 3 (dO x) e ps a b)))
 |SH {B rd c e h i v v' bs r}:Tr.get e i=some v→ny (· ∈bs) h v v'→VS fs ms B (.code rd c (Tr.set e i v') (fh bs h)) r→VS fs ms B (.code rd c e h) r
 |drop {B rd c e h e' r}:(∀i v,Tr.get e' i=some v→Tr.get e i=some v)→VS fs ms B (.code rd c e' h) r→VS fs ms B (.code rd c e h) r
 |gc {B rd c e h p e' h' r}:GC B p e h e' h'→VS fs ms B (.code rd c e' h') r→VS fs ms B (.code rd c e h) r
 |nil {B rd e h}:VS fs ms B (.ops rd [] e h) (.ops [] e h)
 |off {B rd i l e h tr e' h'}:cT i e=some false→VS fs ms B (.ops rd l (e.put i.dst .undef) h) (.ops tr e' h')→VS fs ms B (.ops rd (i::l) e h) (.ops (⟨h,i.args.map e.ev,.undef,false⟩::tr) e' h')
 |on {B rd i l e h v h1 tr e' h'}:cT i e=some true→dJ e i.args=true→VS fs ms B (.op rd i.op (i.args.map e.ev) h) (.val v h1)→VS fs ms B (.ops rd l (e.put i.dst v) h1) (.ops tr e' h')→
   VS fs ms B (.ops rd (i::l) e h) (.ops (⟨h,i.args.map e.ev,v,true⟩::tr) e' h')
 |KO {B rd o vals h v}:pV o vals=some v→VS fs ms B (.op rd (.p o) vals h) (.val v h)
 |SU {B rd o vals h x f}:aI o vals=some (x,f)→VS fs ms B (.op rd (.a o) vals h) (.val (f h.next) (h.new x))
 |Jl {B rd o vals h v}:rV o vals h=some v→VS fs ms B (.op rd (.r o) vals h) (.val v h)
 |RP {B rd o vals h v h1}:eV o vals h=some (v,h1)→VS fs ms B (.op rd (.e o) vals h) (.val v h1)
 |WE {B rd o vals h v h1}:Yr o vals h=some (v,h1)→VS fs ms B (.op rd (.e o) vals h) (.val v h1)
 |tN {B rd fv args h v h1}:VS fs ms B (.fD fv args h) (.val v h1)→VS fs ms B (.op rd .call (fv::args) h) (.val v h1)
 |o8 {B rd name t x args h f v h1}:ms t name=some f→VS fs ms B (.call f (x::args) h) (.val v h1)→VS fs ms B (.op rd (.invoke name) (.iface t x::args) h) (.val v h1)
 |fD {B f first aM args h v h1}:VS fs ms B (.call f (first++(args++aM)) h) (.val v h1)→VS fs ms B (.fD (.func (.func f) first aM) args h) (.val v h1)
 |yield {B L args h fZ e ps a b e2 h2 cN x e4 h4 OU sM}:h.get L=some (.loop 0 fZ e ps a b)→args.length=ps.length→
   VS fs ms h.next (.code true a (gP ps args e) h) (.code .normal e2 h2)→h2.get L=some (.loop 0 cN e ps a b)→
   VS fs ms h.next (.code true b e2 (h2.set L (.loop 1 cN e ps a b))) (.code x e4 h4)→(∀v,x≠.panic v)→h4.get L=some (.loop OU sM e ps a b)→
   VS fs ms B (.fD (.yield L) args h) (.val (.bool x.cB) (h4.set L (.loop (bif x.cB then 0 else 2) (dO x) e ps a b)))
 |call {B f args h af x e h1 vs}:fs f=some af→args.length≤af.ntmps→VS fs ms h.next (.code false af.body (Env.start af.ntmps args) h) (.code x e h1)→(x=.normal∨x=.ret)→dH e h1 af.results=some vs→
   VS fs ms B (.call f args h) (.val (dR vs) h1)
 |nY {B g ps a b e h f first aM v h2}:dJ e [g]=true→Env.ev e g=AV.func (.func f) first aM→VS fs ms B (.call f (first++(.yield h.next::aM)) (h.new (.loop 0 none e ps a b))) (.mC v h2)→VS fs ms B (.code false (.rangeFunc g ps a b) e h) (.code (.panic v) e h2)
 |Au {B L args h fZ e ps a id A l1 i l2 e2 h2 cN e3 h3 tr e4 h4 v h5}:h.get L=some (.loop 0 fZ e ps a (.block id (.seq A (.ops (l1++i::l2)))))→args.length=ps.length→
   VS fs ms h.next (.code true a (gP ps args e) h) (.code .normal e2 h2)→bD a=true→h2.get L=some (.loop 0 cN e ps a (.block id (.seq A (.ops (l1++i::l2)))))→bD A=true→
   VS fs ms h.next (.code true A e2 (h2.set L (.loop 1 cN e ps a (.block id (.seq A (.ops (l1++i::l2))))))) (.code .normal e3 h3)→VS fs ms h.next (.ops true l1 e3 h3) (.ops tr e4 h4)→cT i e4=some true→dJ e4 i.args=true→
   VS fs ms h.next (.op true i.op (i.args.map e4.ev) h4) (.mC v h5)→VS fs ms B (.fD (.yield L) args h) (.mC v h5)
 |NT {B rd l1 i l2 e h tr e1 h1 v h2}:VS fs ms B (.ops rd l1 e h) (.ops tr e1 h1)→cT i e1=some true→dJ e1 i.args=true→VS fs ms B (.op rd i.op (i.args.map e1.ev) h1) (.mC v h2)→VS fs ms B (.code rd (.ops (l1++i::l2)) e h) (.code (.panic v) e1 h2)
 |D3 {B rd l1 i win e h tr e1 h1 v h2}:VS fs ms B (.ops rd l1 e h) (.ops tr e1 h1)→(win.all (·.isEmpty)=true∨y5 l1 (win.take l1.length) tr h1)→rA (l1++[i])=true→bU i.op=true→cT i e1=some true→dJ e1 i.args=true→
   VS fs ms B (.op rd i.op (i.args.map e1.ev) h1) (.mC v h2)→VS fs ms B (.code rd (.cn (l1++[i]) win) e h) (.code (.panic v) e1 h2)
 |vf {B rd t x h}:x.pl=true→VS fs ms B (.op rd .panic [.iface t x] h) (.mC (.iface t x) h)
 |ve {B rd fv args h v h1}:VS fs ms B (.fD fv args h) (.mC v h1)→VS fs ms B (.op rd .call (fv::args) h) (.mC v h1)
 |qa {B rd name t x args h f v h1}:ms t name=some f→VS fs ms B (.call f (x::args) h) (.mC v h1)→VS fs ms B (.op rd (.invoke name) (.iface t x::args) h) (.mC v h1)
 |zj {B f first aM args h v h1}:VS fs ms B (.call f (first++(args++aM)) h) (.mC v h1)→VS fs ms B (.fD (.func (.func f) first aM) args h) (.mC v h1)
 |DW {B f args h af v e h1}:fs f=some af→args.length≤af.ntmps→VS fs ms h.next (.code false af.body (Env.start af.ntmps args) h) (.code (.panic v) e h1)→VS fs ms B (.call f args h) (.mC v h1)
 |DV {B f args h af A l1 dst r rest e1 h1 tr e2 h2 g first aM x e3 h3 ag t l2 iC PE e4 y e5 h5 vs}:fs f=some af→args.length≤af.ntmps→af.body=.seq A (.seq (.ops (l1++[qG dst r])) rest)→
   VS fs ms h.next (.code false A (Env.start af.ntmps args) h) (.code .normal e1 h1)→bD A=true→VS fs ms h.next (.ops false l1 e1 h1) (.ops tr e2 h2)→dJ e2 [r]=true→e2.ev r=.func (.func g) first aM→
   VS fs ms h2.next (.code false rest (e2.put dst .undef) h2) (.code x e3 h3)→(x=.normal∨x=.ret∨∃v,x=.panic v)→(oD x).pl=true→
   fs g=some ag→(first++aM).length≤ag.ntmps→ag.body=.seq (.ops (z8 t::l2)) iC→ag.results=[]→bD iC=true→
   VS fs ms h3.next (.ops false l2 ((Env.start ag.ntmps (first++aM)).put (some t) (oD x)) h3) (.ops PE e4 h3)→nU l2=true→VS fs ms h3.next (.code false iC e4 h3) (.code y e5 h5)→(y=.normal∨y=.ret)→
   dH e3 h5 af.results=some vs→VS fs ms B (.call f args h) (.val (dR vs) h5)
 |pure {B f args h v g v'}:VS fs ms B (.call f args ⟨0,.nil⟩) (.val v g)→cD args=true→ny (fun _=>True) g v v'→v'.cl=true→VS fs ms B (.call f args h) (.val v' h)
 |Yv {B f args args' h bs v h1}:qR (· ∈bs) h args args'→VS fs ms B (.call f args' (fh bs h)) (.val v h1)→VS fs ms B (.call f args h) (.val v h1)
 |Yw {B f args h bs v v' h1}:VS fs ms B (.call f args h) (.val v h1)→ny (· ∈bs) h1 v v'→VS fs ms B (.call f args h) (.val v' (fh bs h1))
 |closed {B f args h v h1}:BS fs ms (.call f args ⟨0,.nil⟩) (.val v h1)→mc args=true→v.pl=true→VS fs ms B (.call f args h) (.val v h)
 |view {B f args args' h v g}:qR (fun _=>True) h args args'→cD args'=true→VS fs ms B (.call f args' ⟨0,.nil⟩) (.val v g)→v.pl=true→VS fs ms B (.call f args h) (.val v h)
 |PJ {B f args args' h g b o len cap op vs wr es}:qR (fun _=>True) h args args'→cD args'=true→VS fs ms B (.call f args' ⟨0,.nil⟩) (.val (.sl b o len cap op) g)→g.get b=some (.cells vs wr es)→mc vs=true→
   VS fs ms B (.call f args h) (.val (.sl h.next o len cap op) (h.new (.cells vs wr es)))
end Ads
end Go.Proofs.YtnlcabhfkpafmaaGreat
