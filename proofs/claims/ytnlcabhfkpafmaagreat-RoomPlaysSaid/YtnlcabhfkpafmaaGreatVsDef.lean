/-
  The layer 'Vs': the big steps of Ads with rows that nobody writes any more as plain values ('fz'), pointers into them ('fp'), and calls that are run on an empty heap.
-/
import Derived.Test.YtnlcabhfkpafmaaGreatAdsEvalX
set_option linter.unusedVariables false
namespace Go.Proofs.YtnlcabhfkpafmaaGreat
namespace Ads
mutual
def AV.cl:AV→Bool
 |.ptr _ _|.sl _ _ _ _ _|.map _|.yield _|.gY _|.rest _ _ _=>false
 |.func fn first aL=>cC first&&cC aL&&(match fn with|.yield _=>false|_=>true)
 |.iface _ v=>v.cl
 |.agg cs=>cC cs
 |.cn vs=>cC vs
 |.fz _ l=>cC l
 |.fp cs _=>cC cs
 |_=>true
def cC:List AV→Bool
 |[]=>true
 |v::vs=>v.cl&&cC vs
end
mutual
def AV.pl:AV→Bool
 |.ptr _ _|.sl _ _ _ _ _|.map _|.yield _|.fz _ _|.fp _ _|.gY _|.rest _ _ _=>false
 |.func fn first aL=>l9 first&&l9 aL&&(match fn with|.yield _=>false|_=>true)
 |.iface _ v=>v.pl
 |.agg cs=>l9 cs
 |.cn vs=>l9 vs
 |_=>true
def l9:List AV→Bool
 |[]=>true
 |v::vs=>v.pl&&l9 vs
end
def AV.dt(v:AV):Bool:=match v with
 |.ptr _ _|.sl _ _ _ _ _|.map _|.yield _|.rest _ _ _=>true
 |v=>v.pl
def dI(e:Env):List bG→Bool
 |[]=>true
 |.c _::l=>dI e l
 |.t i::l=>(Tr.get e i).isSome&&dI e l
def cT(i:bF)(e:Env):Option Bool:=
 match i.guard with
 |none=>some true
 |some (d,want)=>match Tr.get e d with
  |some (.bool b)=>some (b==want)
  |some _=>some false
  |none=>none
def nY(e:Env)(h:Heap):s9→Option AV
 |.tmp t=>Tr.get e t
 |.cell a n g=>match Tr.get e a with
  |some (.ptr b o)=>cond g ((h.aY b o n).map .agg) (h.ck b o)
  |_=>none
def dX(e:Env)(h:Heap):List s9→Option (List AV)
 |[]=>some []
 |r::rs=>match nY e h r,dX e h rs with
  |some v,some vs=>some (v::vs)
  |_,_=>none
def aa(l:List AV):List AV:=l.flatMap AV.cells
def aN(s:Nat):List AV→Bool
 |[]=>true
 |x::l=>Nat.beq x.cells.length s&&aN s l
def fu(k:Nat)(m:Bool)(h mm len:Nat):Nat:=
 cond (Nat.beq k 3) 3 (cond m (cond (Nat.beq mm h) 2 1) (cond (Nat.beq h len) k (min k 1)))
def wV(size:Nat)(lo hi m:Bool)(k:Nat)(l:List AV)(r:List AV):Option AV:=
 match bounds l.length l.length lo hi m r with
 |some (a,h,mm)=>cond (Nat.beq a l.length&&Nat.beq k 0&&!Nat.beq a 0) none (cond (aN size l) (some (.fz (fu k m h mm l.length) ((l.drop a).take (h-a)))) none)
 |none=>none
def pV(o:qw)(args:List AV):Option AV:=
 match o with
 |.eq k=>match args with
  |[x,y]=>match x with
   |.fz z _=>(match k,y with|.lP,.aK=>some (.bool (Nat.beq z 3))|_,_=>none)
   |.fp _ _=>(match k,y with|.cQ,.aP=>some (.bool false)|_,_=>none)
   |x=>match y with
    |.fz z _=>(match k,x with|.lP,.aK=>some (.bool (Nat.beq z 3))|_,_=>none)
    |.fp _ _=>(match k,x with|.cQ,.aP=>some (.bool false)|_,_=>none)
    |y=>(Ci k x y).map .bool
  |_=>none
 |.neq k=>match args with
  |[x,y]=>match x with
   |.fz z _=>(match k,y with|.lP,.aK=>some (.bool !(Nat.beq z 3))|_,_=>none)
   |.fp _ _=>(match k,y with|.cQ,.aP=>some (.bool true)|_,_=>none)
   |x=>match y with
    |.fz z _=>(match k,x with|.lP,.aK=>some (.bool !(Nat.beq z 3))|_,_=>none)
    |.fp _ _=>(match k,x with|.cQ,.aP=>some (.bool true)|_,_=>none)
    |y=>(Ci k x y).map fun b=>.bool !b
  |_=>none
 |.oZ=>l1 args fun x=>match x with
  |.fp cs o=>some (.fp cs o)
  |.ptr b o=>some (.ptr b o)
  |_=>none
 |.vG off=>l1 args fun x=>match x with
  |.fp cs o=>some (.fp cs (o+off))
  |.ptr b o=>some (.ptr b (o+off))
  |_=>none
 |.ay size=>l2 args fun x i=>match x with
  |.fz _ l=>tj i fun i=>match l[i]? with
   |some y=>cond (Nat.beq y.cells.length size) (some (.fp y.cells 0)) none
   |none=>none
  |.sl b o len _ _=>tj i fun i=>cond (Nat.ble (i+1) len) (some (.ptr b (o+i*size))) none
  |_=>none
 |.kA size len=>l2 args fun x i=>match x with
  |.fp cs o=>tj i fun i=>cond (Nat.ble (i+1) len) (some (.fp cs (o+i*size))) none
  |.ptr b o=>tj i fun i=>cond (Nat.ble (i+1) len) (some (.ptr b (o+i*size))) none
  |_=>none
 |.bK=>l1 args fun x=>match x with
  |.fz _ l=>some (.int .i64 l.length)
  |.sl _ _ len _ _=>some (.int .i64 len)
  |.aK=>some (.int .i64 0)
  |.rest _ _ _=>some (.int .i64 0)
  |_=>none
 |.slice size lo hi m=>lc args fun x r=>match x with
  |.fz k l=>wV size lo hi m k l r
  |x=>lQ size lo hi m x r
 |o=>ZF o args
def rV(o:DL)(args:List AV)(h:Heap):Option AV:=
 match o with
 |.ck=>l1 args fun x=>match x with
  |.fp cs o=>cs[o]?
  |.ptr b o=>h.ck b o
  |_=>none
 |.aY n=>l1 args fun x=>match x with
  |.fp cs o=>cond (Nat.ble (o+n) cs.length) (some (.agg ((cs.drop o).take n))) none
  |.ptr b o=>(h.aY b o n).map .agg
  |_=>none
 |.toStr=>l1 args fun x=>match x with
  |.fz _ l=>(cR l).map .str
  |x=>rI .toStr [x] h
 |.entry=>none
 |o=>rI o args h
def dm(size:Nat)(h:Heap)(x:AV):Option (Nat×List AV):=
 match x with
 |.fz _ l=>cond (aN size l) (some (l.length,aa l)) none
 |x=>aV size h x
def eV(o:Cq)(args:List AV)(h:Heap):Option (AV×Heap):=
 match o with
 |.append size bytes=>l2 args fun s x=>match dm size h x with
  |none=>none
  |some (n,new)=>cond (bz new) (match s with
   |.aK=>cond (Nat.beq n 0) (some (.aK,h))
     (cond (Nat.ble (n*bytes) 140737488355328&&Nat.ble n 9223372036854775807) (some (.sl h.next 0 n n true,h.new (.cells new true size))) none)
   |.fz k l=>cond (Nat.beq n 0) (some (.fz k l,h)) (cond (Nat.beq k 3)
     (cond (Nat.ble (n*bytes) 140737488355328&&Nat.ble n 9223372036854775807) (some (.sl h.next 0 n n true,h.new (.cells new true size))) none)
     (cond (Nat.beq k 2&&Nat.ble ((l.length+n)*bytes) 140737488355328&&Nat.ble (l.length+n) 9223372036854775807&&aN size l)
      (some (.sl h.next 0 (l.length+n) (l.length+n) true,h.new (.cells (aa l++new) true size))) none))
   |.sl b o len cap lX=>cond (Nat.beq n 0&&Nat.ble len cap) (some (.sl b o len cap lX,h)) (cond (Nat.ble (len+n) cap)
     ((h.fy b (o+len*size) new).map fun h=>(.sl b o (len+n) cap lX,h))
     (cond (Nat.ble ((len+n)*bytes) 140737488355328&&Nat.ble (len+n) 9223372036854775807)
      (match h.get b,h.aY b o (len*size) with
      |some (.cells vs wr es),some old=>cond lX
        (cond (wr&&Nat.beq vs.length (o+len*size)&&Nat.beq cap len&&Nat.beq es size) (some (.sl h.next 0 (len+n) (len+n) true,(h.del b).new (.cells (old++new) true size))) none)
        (some (.sl h.next 0 (len+n) (len+n) true,h.new (.cells (old++new) true size)))
      |_,_=>none) none))
   |_=>none) none
 |.copy size=>l2 args fun d x=>match dm size h x with
  |none=>none
  |some (n,new)=>match d with
   |.aK=>some (.int .i64 0,h)
   |.sl b o len _ _=>(h.fy b o (new.take (min n len*size))).map fun h=>(.int .i64 (min n len),h)
   |_=>none
 |.range=>none
 |.next=>none
 |.NM=>none
 |o=>eI o args h
def Yp(o:Cq)(args:List AV)(h:Heap):Option (AV×Heap):=
 match o,args with
 |.append size bytes,[.sl b o len cap true,x]=>match dm size h x with
  |none=>none
  |some (n,new)=>match h.get b,h.aY b o (len*size) with
   |some (.cells vs true es),some old=>
    cond (bz new&&(!Nat.beq n 0&&Nat.ble ((len+n)*bytes) 140737488355328&&Nat.ble (len+n) 9223372036854775807)&&(Nat.beq vs.length (o+len*size)&&Nat.beq cap len&&Nat.beq es size))
     (some (.sl h.next 0 (len+n) (len+n) true,(h.set b (.cells vs false es)).new (.cells (old++new) false size))) none
   |_,_=>none
 |_,_=>none
inductive nu(B:Nat→Prop)(g:Heap):AV→AV→Prop where
 |clean {v:AV}:v.cl=true→nu B g v v
 |agg {cs cs':List AV}:cs.length=cs'.length→(∀(i:Nat) (x y:AV),cs[i]?=some x→cs'[i]?=some y→nu B g x y)→nu B g (.agg cs) (.agg cs')
 |cn {cs cs':List AV}:cs.length=cs'.length→(∀(i:Nat) (x y:AV),cs[i]?=some x→cs'[i]?=some y→nu B g x y)→nu B g (.cn cs) (.cn cs')
 |iface {t:Nat} {v v':AV}:nu B g v v'→nu B g (.iface t v) (.iface t v')
 |aK:nu B g .aK (.fz 3 [])
 |func {fn:Fn} {a a' c c':List AV}:a.length=a'.length→(∀(i:Nat) (x y:AV),a[i]?=some x→a'[i]?=some y→nu B g x y)→
   c.length=c'.length→(∀(i:Nat) (x y:AV),c[i]?=some x→c'[i]?=some y→nu B g x y)→nu B g (.func fn a c) (.func fn a' c')
 |ptr {b o base o':Nat} {cs vs:List AV} {wr:Bool} {es:Nat}:B b→g.get b=some (.cells vs wr es)→o=base+o'→base+cs.length≤vs.length→
   (∀(j:Nat) (c y:AV),cs[j]?=some c→vs[base+j]?=some y→nu B g y c)→nu B g (.ptr b o) (.fp cs o')
 |sl {b o len cap:Nat} {op:Bool} {k s:Nat} {l vs:List AV} {wr:Bool} {es:Nat}:B b→g.get b=some (.cells vs wr es)→aN s l=true→len=l.length→o+l.length*s≤vs.length→len≤cap→k≤2→
   (1≤k→op=false)→(2≤k→cap=len)→(∀(i:Nat) (x:AV) (j:Nat) (c y:AV),l[i]?=some x→x.cells[j]?=some c→vs[o+(i*s+j)]?=some y→nu B g y c)→nu B g (.sl b o len cap op) (.fz k l)
def qQ(B:Nat→Prop)(g:Heap)(l l':List AV):Prop:=l.length=l'.length∧∀(i:Nat) (x y:AV),l[i]?=some x→l'[i]?=some y→nu B g x y
def fh:List Nat→Heap→Heap
 |[],g=>g
 |b::l,g=>fh l (g.del b)
inductive uG(p:Nat→Nat)(n:Nat):AV→AV→Prop where
 |cl {v:AV}:v.cl=true→uG p n v v
 |ptr {b o:Nat}:b<n→uG p n (.ptr b o) (.ptr (p b) o)
 |sl {b o len cap:Nat} {op:Bool}:b<n→uG p n (.sl b o len cap op) (.sl (p b) o len cap op)
 |map {b:Nat}:b<n→uG p n (.map b) (.map (p b))
 |yield {b:Nat}:b<n→uG p n (.yield b) (.yield (p b))
 |iface {t:Nat} {v v':AV}:uG p n v v'→uG p n (.iface t v) (.iface t v')
 |agg {cs cs':List AV}:cs.length=cs'.length→(∀(i:Nat) (x y:AV),cs[i]?=some x→cs'[i]?=some y→uG p n x y)→uG p n (.agg cs) (.agg cs')
 |cn {cs cs':List AV}:cs.length=cs'.length→(∀(i:Nat) (x y:AV),cs[i]?=some x→cs'[i]?=some y→uG p n x y)→uG p n (.cn cs) (.cn cs')
 |func {fn:Fn} {a a' c c':List AV}:a.length=a'.length→(∀(i:Nat) (x y:AV),a[i]?=some x→a'[i]?=some y→uG p n x y)→
   c.length=c'.length→(∀(i:Nat) (x y:AV),c[i]?=some x→c'[i]?=some y→uG p n x y)→uG p n (.func fn a c) (.func fn a' c')
inductive xg(p:Nat→Nat)(n:Nat):dD→dD→Prop where
 |cells {vs vs':List AV} {wr:Bool} {es:Nat}:vs.length=vs'.length→(∀(i:Nat) (x y:AV),vs[i]?=some x→vs'[i]?=some y→uG p n x y)→xg p n (.cells vs wr es) (.cells vs' wr es)
 |map {l l':List (AV×AV)} {bs:List Nat} {c:Nat}:l.length=l'.length→(∀(i:Nat) (x y:AV×AV),l[i]?=some x→l'[i]?=some y→uG p n x.1 y.1∧uG p n x.2 y.2)→xg p n (.map l bs c) (.map l' bs c)
 |loop {st:Nat} {fZ:Option AX} {e e':Env} {ps:List Nat} {a b:AC}:(∀i v,Tr.get e i=some v→∃u,Tr.get e' i=some u∧uG p n v u)→xg p n (.loop st fZ e ps a b) (.loop st fZ e' ps a b)
structure GC(base:Nat)(p:Nat→Nat)(e1:Env)(g1:Heap)(e:Env)(g:Heap):Prop where
 slots:∀i v,Tr.get e i=some v→∃u,Tr.get e1 i=some u∧uG p g.next v u
 Qa:∀b x,g.get b=some x→b<g.next∧∃y,g1.get (p b)=some y∧xg p g.next x y
 inj:∀b c,g.get b≠none→g.get c≠none→p b=p c→b=c
 fix:∀b,b<base→p b=b
 next:base≤g.next
def lK(P:Nat→Bool):List bG→Bool
 |[]=>true
 |.c _::l=>lK P l
 |.t j::l=>P j&&lK P l
def Rt:List AV→Bool
 |[.fp _ _]=>true
 |_=>false
def A9(P:Nat→Bool)(i:bF)(m:aM)(u:Nat):Bool:=match i.dst with
 |none=>P u
 |some d=>cond (Nat.beq u d) (match i.op with
  |.p _=>lK P i.args
  |.r _=>lK P i.args&&Rt m.vals
  |_=>false) (P u)
def DA(n:Nat)(v:AV):Bool:=match v with
 |.ptr b _=>Nat.ble (b+1) n
 |.sl b _ _ _ _=>Nat.ble (b+1) n
 |v=>v.pl
def rJ(n:Nat):List AV→Bool
 |[]=>true
 |v::l=>DA n v&&rJ n l
def y5(g:Heap):(Nat→Bool)→List bF→List aM→Nat→Prop
 |P,i::_,m::_,0=>(lK P i.args||rJ g.next m.vals)=true∧m.on=true∧((m.v.dt=true∧∀o,i.op=.r o→rV o m.vals g=some m.v)∨∃cs o1,m.vals=[.fp cs o1])
 |P,i::l,m::tr,n+1=>y5 g (A9 P i m) l tr n
 |_,_,_,_=>False
def Cd(l:List bF)(win:List (List Nat))(tr:List aM)(g1:Heap):Prop:=
 ∀(k:Nat) i cs m o,l[k]?=some i→win[k]?=some cs→tr[k]?=some m→i.op=.r o→m.on=true→∀c∈cs,(c≤k∧y5 (dU (tr.drop c) g1) (fun _=>true) (l.drop c) (tr.drop c) (k-c))∨
  (k≤c∧c<tr.length∧((m.v.dt=true∧rV o m.vals (dU (tr.drop c) g1)=some m.v)∨∃cs o1,m.vals=[.fp cs o1]))
inductive VS(fs:Nat→Option ak)(ms:Nat→String→Option Nat):Nat→Task→SD→Prop where
 |skip {B rd e h}:VS fs ms B (.code rd .skip e h) (.code .normal e h)
 |ops {B rd l e h tr e' h'}:VS fs ms B (.ops rd l e h) (.ops tr e' h')→VS fs ms B (.code rd (.ops l) e h) (.code .normal e' h')
 |cj {B rd l win e h tr e' h'}:win.all (·.isEmpty)=true→VS fs ms B (.ops rd l e h) (.ops tr e' h')→VS fs ms B (.code rd (.cj l win) e h) (.code .normal e' h')
 |Pd {B rd l win e h tr e' h'}:Cd l win tr h'→VS fs ms B (.ops rd l e h) (.ops tr e' h')→VS fs ms B (.code rd (.cj l win) e h) (.code .normal e' h')
 |Dz {B rd a b e h e1 h1 r}:VS fs ms B (.code rd a e h) (.code .normal e1 h1)→VS fs ms B (.code rd b e1 h1) r→VS fs ms B (.code rd (.seq a b) e h) r
 |tT {B rd a b e h x e1 h1}:VS fs ms B (.code rd a e h) (.code x e1 h1)→x.cA=false→VS fs ms B (.code rd (.seq a b) e h) (.code x e1 h1)
 |cond {B rd c a b e h t r}:dI e [c]=true→e.ev c=.bool t→VS fs ms B (.code rd (bif t then a else b) e h) r→VS fs ms B (.code rd (.cond c a b) e h) r
 |tf {B rd id c e h e1 h1}:VS fs ms B (.code rd c e h) (.code (.exit id) e1 h1)→VS fs ms B (.code rd (.block id c) e h) (.code .normal e1 h1)
 |kr {B rd id c e h x e1 h1}:VS fs ms B (.code rd c e h) (.code x e1 h1)→(∀i,x=.exit i→i≠id)→VS fs ms B (.code rd (.block id c) e h) (.code x e1 h1)
 |uu {B rd c e h e1 h1 r}:VS fs ms B (.code rd c e h) (.code .normal e1 h1)→VS fs ms B (.code rd (.loop c) e1 h1) r→VS fs ms B (.code rd (.loop c) e h) r
 |iz {B rd c e h x e1 h1}:VS fs ms B (.code rd c e h) (.code x e1 h1)→x.cA=false→VS fs ms B (.code rd (.loop c) e h) (.code x e1 h1)
 |exit {B rd id e h}:VS fs ms B (.code rd (.exit id) e h) (.code (.exit id) e h)
 |ret {B rd e h}:VS fs ms B (.code rd .ret e h) (.code .ret e h)
 |rangeFunc {B g ps a b e h f first aL v h2 st x}:dI e [g]=true→Env.ev e g=AV.func (.func f) first aL→
   VS fs ms B (.call f (first++(.yield h.next::aL)) (h.new (.loop 0 none e ps a b))) (.val v h2)→
   h2.get h.next=some (.loop st (dN x) e ps a b)→st≠1→(∀v,x≠.panic v)→
   VS fs ms B (.code false (.rangeFunc g ps a b) e h) (.code x e (h2.set h.next (.loop 3 (dN x) e ps a b)))
 |SG {B rd c e h i v v' bs r}:Tr.get e i=some v→nu (· ∈bs) h v v'→VS fs ms B (.code rd c (Tr.set e i v') (fh bs h)) r→VS fs ms B (.code rd c e h) r
 |drop {B rd c e h e' r}:(∀i v,Tr.get e' i=some v→Tr.get e i=some v)→VS fs ms B (.code rd c e' h) r→VS fs ms B (.code rd c e h) r
 |gc {B rd c e h p e' h' r}:GC B p e h e' h'→VS fs ms B (.code rd c e' h') r→VS fs ms B (.code rd c e h) r
 |nil {B rd e h}:VS fs ms B (.ops rd [] e h) (.ops [] e h)
 |off {B rd i l e h tr e' h'}:cT i e=some false→VS fs ms B (.ops rd l (e.put i.dst .undef) h) (.ops tr e' h')→VS fs ms B (.ops rd (i::l) e h) (.ops (⟨h,i.args.map e.ev,.undef,false⟩::tr) e' h')
 |on {B rd i l e h v h1 tr e' h'}:cT i e=some true→dI e i.args=true→VS fs ms B (.op rd i.op (i.args.map e.ev) h) (.val v h1)→VS fs ms B (.ops rd l (e.put i.dst v) h1) (.ops tr e' h')→
   VS fs ms B (.ops rd (i::l) e h) (.ops (⟨h,i.args.map e.ev,v,true⟩::tr) e' h')
 |KQ {B rd o vals h v}:pV o vals=some v→VS fs ms B (.op rd (.p o) vals h) (.val v h)
 |SS {B rd o vals h x f}:aI o vals=some (x,f)→VS fs ms B (.op rd (.a o) vals h) (.val (f h.next) (h.new x))
 |Jm {B rd o vals h v}:rV o vals h=some v→VS fs ms B (.op rd (.r o) vals h) (.val v h)
 |RQ {B rd o vals h v h1}:eV o vals h=some (v,h1)→VS fs ms B (.op rd (.e o) vals h) (.val v h1)
 |WC {B rd o vals h v h1}:Yp o vals h=some (v,h1)→VS fs ms B (.op rd (.e o) vals h) (.val v h1)
 |tM {B rd fv args h v h1}:VS fs ms B (.fD fv args h) (.val v h1)→VS fs ms B (.op rd .call (fv::args) h) (.val v h1)
 |o6 {B rd name t x args h f v h1}:ms t name=some f→VS fs ms B (.call f (x::args) h) (.val v h1)→VS fs ms B (.op rd (.invoke name) (.iface t x::args) h) (.val v h1)
 |fD {B f first aL args h v h1}:VS fs ms B (.call f (first++(args++aL)) h) (.val v h1)→VS fs ms B (.fD (.func (.func f) first aL) args h) (.val v h1)
 |yield {B L args h fZ e ps a b e2 h2 cN x e4 h4 OW sL}:h.get L=some (.loop 0 fZ e ps a b)→args.length=ps.length→
   VS fs ms h.next (.code true a (gP ps args e) h) (.code .normal e2 h2)→h2.get L=some (.loop 0 cN e ps a b)→
   VS fs ms h.next (.code true b e2 (h2.set L (.loop 1 cN e ps a b))) (.code x e4 h4)→(∀v,x≠.panic v)→h4.get L=some (.loop OW sL e ps a b)→
   VS fs ms B (.fD (.yield L) args h) (.val (.bool x.cA) (h4.set L (.loop (bif x.cA then 0 else 2) (dN x) e ps a b)))
 |call {B f args h af x e h1 vs}:fs f=some af→args.length≤af.ntmps→VS fs ms h.next (.code false af.body (Env.start af.ntmps args) h) (.code x e h1)→(x=.normal∨x=.ret)→dX e h1 af.results=some vs→
   VS fs ms B (.call f args h) (.val (dP vs) h1)
 |nW {B g ps a b e h f first aL v h2}:dI e [g]=true→Env.ev e g=AV.func (.func f) first aL→VS fs ms B (.call f (first++(.yield h.next::aL)) (h.new (.loop 0 none e ps a b))) (.mA v h2)→VS fs ms B (.code false (.rangeFunc g ps a b) e h) (.code (.panic v) e h2)
 |Au {B L args h fZ e ps a id A l1 i l2 e2 h2 cN e3 h3 tr e4 h4 v h5}:h.get L=some (.loop 0 fZ e ps a (.block id (.seq A (.ops (l1++i::l2)))))→args.length=ps.length→
   VS fs ms h.next (.code true a (gP ps args e) h) (.code .normal e2 h2)→bC a=true→h2.get L=some (.loop 0 cN e ps a (.block id (.seq A (.ops (l1++i::l2)))))→bC A=true→
   VS fs ms h.next (.code true A e2 (h2.set L (.loop 1 cN e ps a (.block id (.seq A (.ops (l1++i::l2))))))) (.code .normal e3 h3)→VS fs ms h.next (.ops true l1 e3 h3) (.ops tr e4 h4)→cT i e4=some true→dI e4 i.args=true→
   VS fs ms h.next (.op true i.op (i.args.map e4.ev) h4) (.mA v h5)→VS fs ms B (.fD (.yield L) args h) (.mA v h5)
 |NV {B rd l1 i l2 e h tr e1 h1 v h2}:VS fs ms B (.ops rd l1 e h) (.ops tr e1 h1)→cT i e1=some true→dI e1 i.args=true→VS fs ms B (.op rd i.op (i.args.map e1.ev) h1) (.mA v h2)→VS fs ms B (.code rd (.ops (l1++i::l2)) e h) (.code (.panic v) e1 h2)
 |D3 {B rd l1 i win e h tr e1 h1 v h2}:VS fs ms B (.ops rd l1 e h) (.ops tr e1 h1)→(win.all (·.isEmpty)=true∨Cd l1 (win.take l1.length) tr h1)→rz (l1++[i])=true→bT i.op=true→cT i e1=some true→dI e1 i.args=true→
   VS fs ms B (.op rd i.op (i.args.map e1.ev) h1) (.mA v h2)→VS fs ms B (.code rd (.cj (l1++[i]) win) e h) (.code (.panic v) e1 h2)
 |ve {B rd t x h}:x.pl=true→VS fs ms B (.op rd .panic [.iface t x] h) (.mA (.iface t x) h)
 |vc {B rd fv args h v h1}:VS fs ms B (.fD fv args h) (.mA v h1)→VS fs ms B (.op rd .call (fv::args) h) (.mA v h1)
 |p9 {B rd name t x args h f v h1}:ms t name=some f→VS fs ms B (.call f (x::args) h) (.mA v h1)→VS fs ms B (.op rd (.invoke name) (.iface t x::args) h) (.mA v h1)
 |zk {B f first aL args h v h1}:VS fs ms B (.call f (first++(args++aL)) h) (.mA v h1)→VS fs ms B (.fD (.func (.func f) first aL) args h) (.mA v h1)
 |DW {B f args h af v e h1}:fs f=some af→args.length≤af.ntmps→VS fs ms h.next (.code false af.body (Env.start af.ntmps args) h) (.code (.panic v) e h1)→VS fs ms B (.call f args h) (.mA v h1)
 |DV {B f args h af A l1 dst r rest e1 h1 tr e2 h2 g first aL x e3 h3 ag t l2 iA PG e4 y e5 h5 vs}:fs f=some af→args.length≤af.ntmps→af.body=.seq A (.seq (.ops (l1++[qF dst r])) rest)→
   VS fs ms h.next (.code false A (Env.start af.ntmps args) h) (.code .normal e1 h1)→bC A=true→VS fs ms h.next (.ops false l1 e1 h1) (.ops tr e2 h2)→dI e2 [r]=true→e2.ev r=.func (.func g) first aL→
   VS fs ms h2.next (.code false rest (e2.put dst .undef) h2) (.code x e3 h3)→(x=.normal∨x=.ret∨∃v,x=.panic v)→(oB x).pl=true→
   fs g=some ag→(first++aL).length≤ag.ntmps→ag.body=.seq (.ops (z8 t::l2)) iA→ag.results=[]→bC iA=true→
   VS fs ms h3.next (.ops false l2 ((Env.start ag.ntmps (first++aL)).put (some t) (oB x)) h3) (.ops PG e4 h3)→nS l2=true→VS fs ms h3.next (.code false iA e4 h3) (.code y e5 h5)→(y=.normal∨y=.ret)→
   dX e3 h5 af.results=some vs→VS fs ms B (.call f args h) (.val (dP vs) h5)
 |pure {B f args h v g v'}:VS fs ms B (.call f args ⟨0,.nil⟩) (.val v g)→cC args=true→nu (fun _=>True) g v v'→v'.cl=true→VS fs ms B (.call f args h) (.val v' h)
 |Yt {B f args args' h bs v h1}:qQ (· ∈bs) h args args'→VS fs ms B (.call f args' (fh bs h)) (.val v h1)→VS fs ms B (.call f args h) (.val v h1)
 |Yu {B f args h bs v v' h1}:VS fs ms B (.call f args h) (.val v h1)→nu (· ∈bs) h1 v v'→VS fs ms B (.call f args h) (.val v' (fh bs h1))
 |closed {B f args h v h1}:BS fs ms (.call f args ⟨0,.nil⟩) (.val v h1)→l9 args=true→v.pl=true→VS fs ms B (.call f args h) (.val v h)
 |view {B f args args' h v g}:qQ (fun _=>True) h args args'→cC args'=true→VS fs ms B (.call f args' ⟨0,.nil⟩) (.val v g)→v.pl=true→VS fs ms B (.call f args h) (.val v h)
 |PL {B f args args' h g b o len cap op vs wr es}:qQ (fun _=>True) h args args'→cC args'=true→VS fs ms B (.call f args' ⟨0,.nil⟩) (.val (.sl b o len cap op) g)→g.get b=some (.cells vs wr es)→l9 vs=true→
   VS fs ms B (.call f args h) (.val (.sl h.next o len cap op) (h.new (.cells vs wr es)))
end Ads
end Go.Proofs.YtnlcabhfkpafmaaGreat
