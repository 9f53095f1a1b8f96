/-
  The abstract deterministic semantics 'Ads': values, heap, instructions, the compiling of the model's operations. No statement about the model stands here.
-/
import GoSem.Dispatch
set_option linter.unusedVariables false
namespace Go.Proofs.Ytenafeojcgmnhaa
namespace Ads
inductive AV where
 |bool (b:Bool)
 |int (k:IntKind) (n:Int)
 |str (s:List UInt8)
 |ptr (b o:Nat)
 |de
 |sl (b o len cap:Nat) (jC:Bool)
 |aN
 |gj (a:Addr)
 |map (b:Nat)
 |jB
 |func (fn:Fn) (first aX:List AV)
 |jL
 |yield (b:Nat)
 |iface (t:Nat) (v:AV)
 |jq
 |agg (cs:List AV)
 |cg (vs:List AV)
 |fz (k:Nat) (l:List AV)
 |fp (cs:List AV) (o:Nat)
 |rest (b o k:Nat)
 deriving Inhabited
def AV.undef:AV:=.cg []
def AV.cells:AV→List AV
 |.agg cs=>cs
 |v=>[v]
def AV.flat:AV→Bool
 |.agg _|.cg _=>false
 |_=>true
def bE:List AV→Bool
 |[]=>true
 |v::vs=>cond v.flat (bE vs) false
inductive Tr(α:Type) where
 |nil
 |node (l:Tr α) (v:Option α) (r:Tr α)
namespace Tr
variable {α:Type}
def get:Tr α→Nat→Option α
 |.nil,_=>none
 |.node l v r,n=>cond (Nat.beq n 0) v (cond (Nat.beq (n%2) 1) (l.get (n/2)) (r.get (n/2-1)))
def left:Tr α→Tr α
 |.nil=>.nil
 |.node l _ _=>l
def right:Tr α→Tr α
 |.nil=>.nil
 |.node _ _ r=>r
def val:Tr α→Option α
 |.nil=>none
 |.node _ v _=>v
def put(x:Option α):Nat→Tr α→Nat→Tr α
 |0,t,_=>t
 |f+1,t,n=>cond (Nat.beq n 0) (.node t.left x t.right)
   (cond (Nat.beq (n%2) 1) (.node (put x f t.left (n/2)) t.val t.right) (.node t.left t.val (put x f t.right (n/2-1))))
def set(t:Tr α)(n:Nat)(x:α):Tr α:=put (some x) (n+1) t n
def del(t:Tr α)(n:Nat):Tr α:=put none (n+1) t n
end Tr
inductive FC where
 |bool
 |iW
 |mW
 |zk
 |xX
 |iface
 |cells (ks:List Nat)
 deriving Inhabited
inductive pz where
 |Fy
 |pick
 |bin (op:BinOp)
 |eq (k:FC)
 |neq (k:FC)
 |not
 |neg
 |conv(k:IntKind)
 |Ee
 |field (off:Nat) (n:Nat) (agg:Bool)
 |ext (i:Nat)
 |oJ
 |va (off:Nat)
 |ak (size:Nat)
 |bV (size len:Nat)
 |EP (size len:Nat) (agg:Bool)
 |za
 |build (iJ:List AV) (parts:List (Nat×Nat))
 |uF (t:Nat)
 |tF (fn:Fn) (U0:Nat)
 |dc
 |zc
 |EW (n:Nat)
 |mx
 |mn
 |slice (size:Nat) (lo hi mx:Bool)
 |lP (lo hi:Bool)
 |lO (size len:Nat) (lo hi mx:Bool)
 |qh (t:Nat) (ok:Bool) (zero:AV)
 deriving Inhabited
inductive NT where
 |alloc (iJ:List AV)
 |box
 |dF (iJ:List AV) (len size:Nat) (parts:List Nat)
 |pR (iJ:List AV) (size bytes:Nat)
 |Lm
 deriving Inhabited
inductive BM where
 |bW
 |aO (n:Nat)
 |lookup (ok:Bool) (zero:AV)
 |toStr
 |Hx
 |entry
 deriving Inhabited
inductive wD where
 |store (n:Nat)
 |append (size bytes:Nat)
 |xo
 |copy (size:Nat)
 |clear (iJ:List AV)
 |ins
 |zT
 |range
 |next
 |HD
 deriving Inhabited
inductive bG where
 |t (i:Nat)
 |c (v:AV)
 deriving Inhabited
inductive gw where
 |p (o:pz)
 |a (o:NT)
 |r (o:BM)
 |e (o:wD)
 |call
 |invoke (name:String)
 |panic
 |bad
 deriving Inhabited
structure bq where
 dst:Option Nat
 guard:Option (Nat×Bool)
 op:gw
 args:List bG
 deriving Inhabited
inductive AC where
 |skip
 |ops (l:List bq)
 |bN (l:List bq) (win:List (List Nat))
 |seq (a b:AC)
 |cond (c:bG) (a b:AC)
 |block (id:Nat) (c:AC)
 |loop (c:AC)
 |rangeFunc (f:bG) (ps:List Nat) (a b:AC)
 |exit (id:Nat)
 |ret
 |bad
 deriving Inhabited
inductive AX where
 |normal
 |exit (id:Nat)
 |ret
 |panic (v:AV)
 deriving Inhabited
inductive cw where
 |cells (vs:List AV) (wr:Bool) (es:Nat)
 |map (es:List (AV×AV)) (bs:List Nat) (c:Nat)
 |iter (m since:Nat) (seen:List Nat) (last:Nat)
 |loop (st:Nat) (cu:Option AX) (e:Tr AV) (ps:List Nat) (a b:AC)
 |defers
 deriving Inhabited
structure Heap where
 next:Nat
 m:Tr cw
namespace Heap
def get(h:Heap)(b:Nat):Option cw:=h.m.get b
def new(h:Heap)(x:cw):Heap:=⟨h.next+1,h.m.set h.next x⟩
def set(h:Heap)(b:Nat)(x:cw):Heap:=⟨h.next,h.m.set b x⟩
def del(h:Heap)(b:Nat):Heap:=⟨h.next,h.m.del b⟩
def row(h:Heap)(b:Nat):Option (List AV):=
 match h.get b with
 |some (.cells vs _ _)=>some vs
 |_=>none
def bW(h:Heap)(b o:Nat):Option AV:=
 match h.row b with
 |some vs=>vs[o]?
 |none=>none
def aO(h:Heap)(b o n:Nat):Option (List AV):=
 match h.row b with
 |some vs=>cond (Nat.ble (o+n) vs.length) (some ((vs.drop o).take n)) none
 |none=>none
def splice{α:Type}:List α→Nat→List α→List α
 |vs,0,[]=>vs
 |[],_,_=>[]
 |_::vs,0,x::xs=>x::splice vs 0 xs
 |v::vs,o+1,xs=>v::splice vs o xs
def cW(h:Heap)(b o:Nat)(xs:List AV):Option Heap:=
 match h.get b with
 |some (.cells vs true es)=>cond (Nat.ble (o+xs.length) vs.length&&bE xs) (some (h.set b (.cells (splice vs o xs) true es))) none
 |_=>none
end Heap
inductive qF where
 |tmp (t:Nat)
 |cell (a:Nat) (n:Nat) (agg:Bool)
 deriving Inhabited
structure aC where
 ntmps:Nat
 results:List qF
 body:AC
 deriving Inhabited
abbrev Env:=Tr AV
def Env.get(e:Env)(i:Nat):AV:=(Tr.get e i).getD .undef
def Env.put(e:Env)(d:Option Nat)(v:AV):Env:=
 match d with
 |some d=>Tr.set e d v
 |none=>e
def Env.ev(e:Env):bG→AV
 |.t i=>e.get i
 |.c v=>v
def Env.args:List AV→Nat→Env→Env
 |[],_,e=>e
 |v::vs,i,e=>Env.args vs (i+1) (Tr.set e i v)
def Tr.full{α:Type}:Nat→Tr α
 |0=>.nil
 |d+1=>.node (Tr.full d) none (Tr.full d)
def Env.start(n:Nat)(args:List AV):Env:=Env.args args 0 (Tr.full (Nat.log2 n+1))
def uX(n:Nat)(d:Option Nat):Bool:=
 match d with
 |some d=>Nat.ble (d+1) n
 |none=>true
def cV(n:Nat):List bq→Bool
 |[]=>true
 |i::l=>uX n i.dst&&cV n l
def oh(n:Nat):List Nat→Bool
 |[]=>true
 |t::l=>Nat.ble (t+1) n&&oh n l
def codeOk(n:Nat):AC→Bool
 |.ops l=>cV n l
 |.bN l _=>cV n l
 |.seq a b=>codeOk n a&&codeOk n b
 |.cond _ a b=>codeOk n a&&codeOk n b
 |.block _ c=>codeOk n c
 |.loop c=>codeOk n c
 |.rangeFunc _ ps a b=>oh n ps&&codeOk n a&&codeOk n b
 |_=>true
def aY:AC→Bool
 |.seq a b=>aY a&&aY b
 |.cond _ a b=>aY a&&aY b
 |.block _ c=>aY c
 |.loop c=>aY c
 |.rangeFunc _ _ _ _=>false
 |_=>true
def part(cs:List AV)(off n:Nat)(agg:Bool):Option AV:=
 cond agg (cond (Nat.ble (off+n) cs.length) (some (.agg ((cs.drop off).take n))) none) cs[off]?
def qJ(op:BinOp)(k:IntKind)(x y:Int):Option AV:=
 match op with
 |.add=>some (.int k (k.wrap (x+y)))
 |.sub=>some (.int k (k.wrap (x-y)))
 |.mul=>some (.int k (k.wrap (x*y)))
 |.quo=>cond (decide (y=0)) none (some (.int k (k.wrap (x.tdiv y))))
 |.rem=>cond (decide (y=0)) none (some (.int k (x.tmod y)))
 |.and=>some (.int k (k.wrap (BitVec.ofInt k.bits x&&&BitVec.ofInt k.bits y).toNat))
 |.or=>some (.int k (k.wrap (BitVec.ofInt k.bits x|||BitVec.ofInt k.bits y).toNat))
 |.xor=>some (.int k (k.wrap (BitVec.ofInt k.bits x^^^BitVec.ofInt k.bits y).toNat))
 |.andNot=>some (.int k (k.wrap (BitVec.ofInt k.bits x&&&~~~BitVec.ofInt k.bits y).toNat))
 |.eql=>some (.bool (x==y))
 |.neq=>some (.bool (x !=y))
 |.lss=>some (.bool (decide (x<y)))
 |.leq=>some (.bool (decide (x≤y)))
 |.gtr=>some (.bool (decide (x>y)))
 |.geq=>some (.bool (decide (x≥y)))
 |_=>none
def mN(op:BinOp)(k:IntKind)(x y:Int):Option AV:=
 cond (decide (y<0)) none
  (match op with
  |.shl=>some (.int k (k.wrap (x*2^(min y.toNat k.bits))))
  |.shr=>some (.int k (x.fdiv (2^(min y.toNat k.bits))))
  |_=>none)
def yA(op:BinOp)(x y:List UInt8):Option AV:=
 match op with
 |.add=>cond (Nat.ble (x.length+y.length) 9223372036854775807) (some (.str (x++y))) none
 |.eql=>some (.bool ((x==y)))
 |.neq=>some (.bool (!(x==y)))
 |.lss=>some (.bool (Go.Op.bytesLess x y))
 |.leq=>some (.bool (Go.Op.bytesLess x y||(x==y)))
 |.gtr=>some (.bool (!(Go.Op.bytesLess x y||(x==y))))
 |.geq=>some (.bool (!Go.Op.bytesLess x y))
 |_=>none
def jQ:BinOp→Bool
 |.shl|.shr=>true
 |_=>false
def wE(op:BinOp)(x y:AV):Option AV:=
 match x,y with
 |.int k a,.int k' b=>cond (jQ op) (mN op k a b) (cond (decide (k=k')) (qJ op k a b) none)
 |.str a,.str b=>yA op a b
 |_,_=>none
def gE(x y:AV):Option Bool:=
 match x,y with
 |.int k a,.int k' b=>cond (decide (k=k')) (some (a==b)) none
 |_,_=>none
def uZ(k:Nat)(x y:AV):Option Bool:=
 match k,x,y with
 |0,.int k a,.int k' b=>cond (decide (k=k')) (some (a==b)) none
 |1,.bool a,.bool b=>some (a==b)
 |2,.str a,.str b=>some (a==b)
 |_,_,_=>none
def iC:List Nat→List AV→List AV→Option Bool
 |[],_,_=>some true
 |k::ks,x::xs,y::ys=>match uZ k x y with
  |some true=>iC ks xs ys
  |some false=>some false
  |none=>none
 |_,_,_=>none
def Ce(k:FC)(x y:AV):Option Bool:=
 match k,x,y with
 |.cells ks,.agg xs,.agg ys=>iC ks xs ys
 |.bool,.bool a,.bool b=>some (a==b)
 |.iW,.de,.de=>some true
 |.iW,.ptr _ _,.de=>some false
 |.iW,.de,.ptr _ _=>some false
 |.mW,.aN,.aN=>some true
 |.mW,.sl _ _ _ _ _,.aN=>some false
 |.mW,.aN,.sl _ _ _ _ _=>some false
 |.mW,.gj _,.aN=>some false
 |.mW,.aN,.gj _=>some false
 |.mW,.rest _ _ _,.aN=>some false
 |.mW,.aN,.rest _ _ _=>some false
 |.zk,.jB,.jB=>some true
 |.zk,.map _,.jB=>some false
 |.zk,.jB,.map _=>some false
 |.xX,.jL,.jL=>some true
 |.xX,.func _ _ _,.jL=>some false
 |.xX,.jL,.func _ _ _=>some false
 |.xX,.yield _,.jL=>some false
 |.xX,.jL,.yield _=>some false
 |.iface,.jq,.jq=>some true
 |.iface,.jq,.iface _ _=>some false
 |.iface,.iface _ _,.jq=>some false
 |_,_,_=>none
def fill:List AV→List (Nat×Nat)→List AV→Option (List AV)
 |cs,[],[]=>some cs
 |cs,(o,n)::ps,v::vs=>
  cond (Nat.beq v.cells.length n&&Nat.ble (o+n) cs.length) (fill (Heap.splice cs o v.cells) ps vs) none
 |_,_,_=>none
def asNat:AV→Option Nat
 |.int _ n=>match n with
  |.ofNat m=>some m
  |.negSucc _=>none
 |_=>none
def bounds(len cap:Nat)(lo hi mx:Bool)(args:List AV):Option (Nat×Nat×Nat):=
 let next (f:Bool) (d:Nat) (l:List AV):Option (Nat×List AV):=
  match f,l with
  |false,l=>some (d,l)
  |true,v::l=>(asNat v).map fun n=>(n,l)
  |true,[]=>none
 match next lo 0 args with
 |none=>none
 |some (l,r)=>match next hi len r with
  |none=>none
  |some (h,r)=>match next mx cap r with
   |none=>none
   |some (m,_)=>cond (Nat.ble l h&&Nat.ble h m&&Nat.ble m cap) (some (l,h,m)) none
def max2(x y:AV):Option AV:=
 match x,y with
 |.int k a,.int _ b=>some (.int k (cond (decide (b>a)) b a))
 |_,_=>none
def min2(x y:AV):Option AV:=
 match x,y with
 |.int k a,.int _ b=>some (.int k (cond (decide (b<a)) b a))
 |_,_=>none
def kB(f:AV→AV→Option AV):AV→List AV→Option AV
 |x,[]=>some x
 |x,y::r=>match f x y with
  |some z=>kB f z r
  |none=>none
def pI(o:pz)(args:List AV):Option AV:=
 match o,args with
 |.Fy,[x]=>some x
 |.pick,[.bool c,a,b]=>some (cond c a b)
 |.bin op,[x,y]=>wE op x y
 |.eq k,[x,y]=>(Ce k x y).map .bool
 |.neq k,[x,y]=>(Ce k x y).map fun b=>.bool !b
 |.not,[.bool b]=>some (.bool !b)
 |.neg,[.int k n]=>some (.int k (k.wrap (0-n)))
 |.Ee,[.str s]=>some (.str s)
 |.conv k,[.int _ n]=>some (.int k (k.wrap n))
 |.field off n g,[.agg cs]=>part cs off n g
 |.ext i,[.cg vs]=>vs[i]?
 |.oJ,[.ptr b o]=>some (.ptr b o)
 |.va off,[.ptr b o]=>some (.ptr b (o+off))
 |.ak size,[.sl b o len _ _,i]=>match asNat i with
  |some i=>cond (Nat.ble (i+1) len) (some (.ptr b (o+i*size))) none
  |none=>none
 |.bV size len,[.ptr b o,i]=>match asNat i with
  |some i=>cond (Nat.ble (i+1) len) (some (.ptr b (o+i*size))) none
  |none=>none
 |.EP size len g,[.agg cs,i]=>match asNat i with
  |some i=>cond (Nat.ble (i+1) len) (part cs (i*size) size g) none
  |none=>none
 |.za,[.str s,i]=>match asNat i with
  |some i=>(s[i]?).map fun b=>.int .u8 b.toNat
  |none=>none
 |.build iJ parts,args=>(fill iJ parts args).map .agg
 |.uF t,[x]=>some (.iface t x)
 |.tF fn n,args=>some (.func fn (args.take n) (args.drop n))
 |.dc,[.sl _ _ len _ _]=>some (.int .i64 len)
 |.dc,[.aN]=>some (.int .i64 0)
 |.dc,[.gj _]=>some (.int .i64 0)
 |.dc,[.rest _ _ _]=>some (.int .i64 0)
 |.zc,[.str s]=>some (.int .i64 s.length)
 |.EW n,_=>some (.int .i64 n)
 |.mx,x::r=>kB max2 x r
 |.mn,x::r=>kB min2 x r
 |.slice size lo hi m,.sl b o len cap jC::r=>match bounds len cap lo hi m r with
  |some (l,h,mm)=>cond (Nat.beq mm l&&Nat.beq cap mm&&(jC&&!m&&!Nat.beq l 0)) (some (.rest b o (l*size))) (some (.sl b (o+cond (Nat.beq mm l) 0 (l*size)) (h-l) (mm-l) (cond m false jC)))
  |none=>none
 |.slice _ lo hi m,.aN::r=>match bounds 0 0 lo hi m r with
  |some _=>some .aN
  |none=>none
 |.slice _ lo hi m,.gj a::r=>match bounds 0 0 lo hi m r with
  |some _=>some (.gj a)
  |none=>none
 |.slice _ lo hi m,.rest b o k::r=>match bounds 0 0 lo hi m r with
  |some _=>cond m none (some (.rest b o k))
  |none=>none
 |.lP lo hi,.str s::r=>match bounds s.length s.length lo hi false r with
  |some (l,h,_)=>some (.str ((s.take h).drop l))
  |none=>none
 |.lO size len lo hi m,.ptr b o::r=>match bounds len len lo hi m r with
  |some (l,h,mm)=>some (.sl b (o+cond (Nat.beq mm l) 0 (l*size)) (h-l) (mm-l) false)
  |none=>none
 |.qh t ok zero,[x]=>match x with
  |.iface u v=>cond (Nat.beq u t) (some (cond ok (.cg [v,.bool true]) v)) (cond ok (some (.cg [zero,.bool false])) none)
  |.jq=>cond ok (some (.cg [zero,.bool false])) none
  |_=>none
 |_,_=>none
def dJ(iJ:List AV):Nat→List AV
 |0=>[]
 |n+1=>iJ++dJ iJ n
def aI(o:NT)(args:List AV):Option (cw×(Nat→AV)):=
 match o,args with
 |.alloc iJ,[]=>some (.cells iJ true 0,fun b=>.ptr b 0)
 |.box,[v]=>some (.cells v.cells true 0,fun b=>.ptr b 0)
 |.dF iJ len size parts,vs=>match fill (dJ iJ len) (parts.map fun i=>(i*size,size)) vs with
  |some cs=>some (.cells cs true 0,fun b=>.sl b 0 len len false)
  |none=>none
 |.pR iJ _ bytes,[l,c]=>match asNat l,asNat c with
  |some l,some c=>cond (Nat.ble l c&&Nat.ble (bytes*c) 140737488355328&&Nat.ble c 9223372036854775807) (some (.cells (dJ iJ c) true 0,fun b=>.sl b 0 l c false)) none
  |_,_=>none
 |.Lm,[]=>some (.map [] [] 0,fun b=>.map b)
 |_,_=>none
def findKey(k:AV):List (AV×AV)→Option (Option AV)
 |[]=>some none
 |(x,v)::r=>match gE k x with
  |some true=>some (some v)
  |some false=>findKey k r
  |none=>none
def putKey(k v:AV):List (AV×AV)→List (AV×AV)
 |[]=>[(k,v)]
 |(x,u)::r=>match gE k x with
  |some true=>(k,v)::r
  |_=>(x,u)::putKey k v r
def cS:List AV→Option (List UInt8)
 |[]=>some []
 |.int .u8 n::r=>(cS r).map fun l=>UInt8.ofNat n.toNat::l
 |_=>none
def nZ(r:Option AV)(bs:List Nat)(c:Nat):List Nat:=match r with
 |some _=>bs
 |none=>bs++[c]
def uT(r:Option AV)(c:Nat):Nat:=match r with
 |some _=>c
 |none=>c+1
def delKey(k:AV):List (AV×AV)→List (AV×AV)
 |[]=>[]
 |(x,u)::r=>match gE k x with
  |some true=>r
  |_=>(x,u)::delKey k r
def l9(k:AV):List (AV×AV)→List Nat→List Nat
 |(x,_)::r,b::bs=>match gE k x with
  |some true=>bs
  |_=>b::l9 k r bs
 |_,bs=>bs
def pH(st:Nat):List Nat→List (AV×AV)→Option AV
 |b::bs,(k,v)::es=>cond (Nat.beq b st) (some (.cg [k,v])) (pH st bs es)
 |_,_=>none
def tv(b:Nat):List Nat→Bool
 |[]=>false
 |c::l=>cond (Nat.beq c b) true (tv b l)
def n6(seen:List Nat):List Nat→List Nat
 |[]=>[]
 |b::bs=>cond (tv b seen) (n6 seen bs) (b::n6 seen bs)
def Ah(last:Nat):List Nat→Bool
 |[]=>false
 |b::bs=>cond (Nat.ble (b+1) last) true (Ah last bs)
def oH(seen:List Nat)(last:Nat)(bs:List Nat):Bool:=seen.isEmpty||bs.isEmpty||Ah last bs
def rI(o:BM)(args:List AV)(h:Heap):Option AV:=
 match o,args with
 |.bW,[.ptr b o]=>h.bW b o
 |.aO n,[.ptr b o]=>(h.aO b o n).map .agg
 |.lookup ok zero,[.map b,k]=>match h.get b with
  |some (.map es _ _)=>match findKey k es with
   |some (some v)=>some (cond ok (.cg [v,.bool true]) v)
   |some none=>some (cond ok (.cg [zero,.bool false]) zero)
   |none=>none
  |_=>none
 |.lookup ok zero,[.jB,_]=>some (cond ok (.cg [zero,.bool false]) zero)
 |.toStr,[.aN]=>some (.str [])
 |.toStr,[.gj _]=>some (.str [])
 |.toStr,[.rest _ _ _]=>some (.str [])
 |.toStr,[.sl b o len _ _]=>match h.aO b o len with
  |some cs=>(cS cs).map .str
  |none=>none
 |.Hx,[.jB]=>some (.int .i64 0)
 |.Hx,[.map b]=>match h.get b with
  |some (.map es _ _)=>some (.int .i64 es.length)
  |_=>none
 |.entry,[.ptr it 0]=>match h.get it with
  |some (.iter m _ seen last)=>match seen.getLast?,h.get m with
   |some st,some (.map es bs c)=>cond (Nat.beq c last) (pH st bs es) none
   |_,_=>none
  |_=>none
 |_,_=>none
def aP(size:Nat)(h:Heap):AV→Option (Nat×List AV)
 |.aN=>some (0,[])
 |.gj _=>some (0,[])
 |.rest _ _ _=>some (0,[])
 |.sl b o len _ _=>(h.aO b o (len*size)).map fun cs=>(len,cs)
 |.str s=>cond (Nat.beq size 1) (some (s.length,s.map fun b=>.int .u8 b.toNat)) none
 |_=>none
def eI(o:wD)(args:List AV)(h:Heap):Option (AV×Heap):=
 match o,args with
 |.store n,[.ptr b o,v]=>cond (Nat.beq v.cells.length n) ((h.cW b o v.cells).map fun h=>(.undef,h)) none
 |.append size bytes,[s,x]=>match aP size h x with
  |none=>none
  |some (n,new)=>cond (bE new) (match s with
   |.aN=>cond (Nat.beq n 0) (some (.aN,h))
     (cond (Nat.ble (n*bytes) 140737488355328&&Nat.ble n 9223372036854775807) (some (.sl h.next 0 n n true,h.new (.cells new true size))) none)
   |.sl b o len cap jC=>cond (Nat.beq n 0&&Nat.ble len cap) (some (.sl b o len cap jC,h)) (cond (Nat.ble (len+n) cap)
     ((h.cW b (o+len*size) new).map fun h=>(.sl b o (len+n) cap jC,h))
     (cond (Nat.ble ((len+n)*bytes) 140737488355328&&Nat.ble (len+n) 9223372036854775807)
      (match h.get b,h.aO b o (len*size) with
      |some (.cells vs wr es),some old=>cond jC
        (cond (wr&&Nat.beq vs.length (o+len*size)&&Nat.beq cap len&&Nat.beq es size) (some (.sl h.next 0 (len+n) (len+n) true,(h.del b).new (.cells (old++new) true size))) none)
        (some (.sl h.next 0 (len+n) (len+n) true,h.new (.cells (old++new) true size)))
      |_,_=>none) none))
   |.gj a=>cond (Nat.beq n 0) (some (.gj a,h))
     (cond (Nat.ble (n*bytes) 140737488355328&&Nat.ble n 9223372036854775807) (some (.sl h.next 0 n n true,h.new (.cells new true size))) none)
   |_=>none) none
 |.copy size,[d,x]=>match d,aP size h x with
  |.aN,some _=>some (.int .i64 0,h)
  |.gj _,some _=>some (.int .i64 0,h)
  |.sl b o len _ _,some (n,new)=>(h.cW b o (new.take (min n len*size))).map fun h=>(.int .i64 (min n len),h)
  |_,_=>none
 |.clear iJ,[d]=>match d with
  |.aN=>some (.undef,h)
  |.sl b o len _ _=>(h.cW b o (dJ iJ len)).map fun h=>(.undef,h)
  |_=>none
 |.ins,[.map b,k,v]=>match h.get b with
  |some (.map es bs c)=>match findKey k es with
   |some r=>some (.undef,h.set b (.map (putKey k v es) (nZ r bs c) (uT r c)))
   |none=>none
  |_=>none
 |.range,[.map b]=>match h.get b with
  |some (.map _ _ c)=>some (.ptr h.next 0,h.new (.iter b c [] c))
  |_=>none
 |.next,[.ptr it 0]=>match h.get it with
  |some (.iter m _ seen last)=>match h.get m with
   |some (.map _ bs _)=>cond (oH seen last bs&&(n6 seen bs).isEmpty) (some (.cg [.bool false],h.del it)) none
   |_=>none
  |_=>none
 |.HD,[.map b,k]=>match h.get b with
  |some (.map es bs c)=>match findKey k es with
   |some _=>some (.cg [],h.set b (.map (delKey k es) (l9 k es bs) c))
   |none=>none
  |_=>none
 |.zT,[.str s]=>some (.sl h.next 0 s.length s.length true,h.new (.cells (s.map fun b=>.int .u8 b.toNat) true 1))
 |_,_=>none
def Af(n:Nat):List Nat→Bool
 |[]=>true
 |b::bs=>cond (Nat.ble (b+1) n) (Af n bs) false
def sq(h:Heap)(it m since:Nat)(seen:List Nat)(c:Nat):List Nat→List (AV×AV)→List (AV×Heap)
 |b::bs,(k,v)::es=>cond (tv b seen) (sq h it m since seen c bs es) ((.cg [.bool true,k,v],h.set it (.iter m since (seen++[b]) c))::sq h it m since seen c bs es)
 |_,_=>[]
def qC(args:List AV)(h:Heap):Option (List (AV×Heap)):=
 match args with
 |[.ptr it 0]=>match h.get it with
  |some (.iter m since seen last)=>match h.get m with
   |some (.map es bs c)=>cond (oH seen last bs&&Af since (n6 seen bs)&&!(n6 seen bs).isEmpty) (some (sq h it m since seen c bs es)) none
   |_=>none
  |_=>none
 |_=>none
def eK(o:wD)(args:List AV)(h:Heap):Option (AV×Heap):=
 match o,args with
 |.append size bytes,[.sl b o len cap true,x]=>match aP size h x with
  |none=>none
  |some (n,new)=>match h.get b,h.aO b o (len*size) with
   |some (.cells vs true es),some old=>
    cond (bE new&&(!Nat.beq n 0&&Nat.ble ((len+n)*bytes) 140737488355328&&Nat.ble (len+n) 9223372036854775807)&&(Nat.beq vs.length (o+len*size)&&Nat.beq cap len&&Nat.beq es size))
     (some (.sl h.next 0 (len+n) (len+n) true,(h.set b (.cells vs false es)).new (.cells (old++new) false size))) none
   |_,_=>none
 |_,_=>none
mutual
def jA:Nat→Value→Option AV
 |0,_=>none
 |f+1,v=>match v with
  |.bool b=>some (.bool b)
  |.int k n=>some (.int k n)
  |.string s=>some (.str s.data.toList)
  |.pointer none=>some .de
  |.slice none 0 0=>some .aN
  |.map none=>some .jB
  |.nilFunc=>some .jL
  |.nilIface=>some .jq
  |.func (.func g) a c=>match nY f a.toList,nY f c.toList with
   |some a,some c=>some (.func (.func g) a c)
   |_,_=>none
  |.iface t v=>(jA f v).map (.iface t)
  |.agg cs=>(nY f cs.toList).map .agg
  |.tuple vs=>(nY f vs.toList).map .cg
  |_=>none
def nY:Nat→List Value→Option (List AV)
 |0,_=>none
 |_+1,[]=>some []
 |f+1,v::vs=>match jA f v,nY f vs with
  |some x,some xs=>some (x::xs)
  |_,_=>none
end
def fuel:Nat:=100000
def dh:Operand→Option bG
 |.tmp t=>some (.t t)
 |.const v=>(jA fuel v).map .c
 |.func f=>some (.c (.func (.func f) [] []))
 |.global _=>none
def b8:List Operand→Option (List bG)
 |[]=>some []
 |x::xs=>match dh x,b8 xs with
  |some r,some rs=>some (r::rs)
  |_,_=>none
variable (P:Program)
def eS(t:TypeId):Option Nat:=(P.info? t).map (·.size)
def qK(t:TypeId):Option Nat:=(P.info? t).map (·.bytes)
def mu(t:TypeId):Option AV:=match P.info? t with
 |some i=>i.zero.bind (jA fuel)
 |none=>none
def lH(t:TypeId):Option Bool:=(P.underlying t).map fun
 |.struct _|.array _ _=>true
 |_=>false
def mc:Nat→List Field→Option (List Nat)
 |_,[]=>some []
 |i,f::fs=>cond (f.name != "_" &&Nat.beq f.offset i) (match P.underlying f.type with
  |some (.int _)=>(mc (i+1) fs).map (0::·)
  |some .bool=>(mc (i+1) fs).map (1::·)
  |some .string=>(mc (i+1) fs).map (2::·)
  |_=>none) none
def oB(t:TypeId):Option FC:=
 match P.underlying t with
 |some (.struct fs)=>cond (P.stoodInHeld t||P.eqGuardType P.depth t) none ((mc P 0 fs.toList).map .cells)
 |some .bool=>some .bool
 |some (.pointer _)=>some .iW
 |some (.slice _)=>some .mW
 |some (.map _ _)=>some .zk
 |some (.func _ _ _)=>some .xX
 |some (.interface _)=>some .iface
 |_=>none
def fy:Operand→Bool
 |.const _=>true
 |_=>false
def j5(t:TypeId):Bool:=match P.underlying t with
 |some (.interface _)=>true
 |_=>false
def oG:TypeDesc→Bool
 |.slice _|.string=>true
 |_=>false
def ny(fs:Array Field)(i:Nat):Option (Nat×Nat):=
 match fs[i]? with
 |some f=>(eS P f.type).map fun n=>(f.offset,n)
 |none=>none
def partsOf(ps:List (Nat×Operand))(place:Nat→Option (Nat×Nat)):Option (List (Nat×Nat)×List bG):=
 match ps with
 |[]=>some ([],[])
 |(i,x)::r=>match place i,dh x,partsOf r place with
  |some p,some a,some (ps,as)=>some (p::ps,a::as)
  |_,_,_=>none
def pY(xs:List (Option Operand)):Option (List bG):=b8 (xs.filterMap id)
def one(op:gw)(xs:List Operand):Option (gw×List bG):=(b8 xs).map fun rs=>(op,rs)
def aA(o:Op):Option (gw×List bG):=
 match o with
 |.move x|.assign x=>one (.p .Fy) [x]
 |.pick c a b=>one (.p .pick) [c,a,b]
 |.alloc t=>(mu P t).bind fun z=>one (.a (.alloc z.cells)) []
 |.box _ x=>one (.a .box) [x]
 |.build t ps=>match mu P t,P.underlying t with
  |some z,some (.struct fs)=>if !(fs.all fun f=>(eS P f.type).isSome) then none else(partsOf ps.toList (ny P fs)).map fun(l,as)=>(.p (.build z.cells l),as)
  |some z,some (.array _ e)=>match eS P e with
   |some n=>(partsOf ps.toList fun i=>some (i*n,n)).map fun(l,as)=>(.p (.build z.cells l),as)
   |none=>none
  |_,_=>none
 |.buildSlice t len ps=>match P.underlying t with
  |some (.slice e)=>match eS P e,mu P e with
   |some n,some z=>if len*n>2^24||z.cells.length !=n then none else(partsOf ps.toList fun i=>some (i,0)).map fun(l,as)=>(.a (.dF z.cells len n (l.map (·.1))),as)
   |_,_=>none
  |_=>none
 |.load t a=>match lH P t,eS P t with
  |some true,some n=>one (.r (.aO n)) [a]
  |some false,some _=>one (.r .bW) [a]
  |_,_=>none
 |.store t a x=>(eS P t).bind fun n=>one (.e (.store n)) [a,x]
 |.nilCheck x=>one (.p .oJ) [x]
 |.binOp op t x y _=>match P.underlying t with
  |some (.int _)|some .string=>one (.p (.bin op)) [x,y]
  |_=>match op with
   |.eql=>if fy x||fy y||!j5 P t then(oB P t).bind fun k=>one (.p (.eq k)) [x,y] else none
   |.neq=>if fy x||fy y||!j5 P t then(oB P t).bind fun k=>one (.p (.neq k)) [x,y] else none
   |_=>none
 |.unOp .not _ x=>one (.p .not) [x]
 |.unOp .neg _ x=>one (.p .neg) [x]
 |.convert src dst x=>match P.underlying src,P.underlying dst with
  |some _,some (.int k)=>one (.p (.conv k)) [x]
  |some .string,some .string=>one (.p .Ee) [x]
  |some .string,some (.slice e)=>match P.underlying e with
   |some (.int .u8)=>one .bad [x]
   |_=>none
  |some (.slice e),some .string=>match P.underlying e with
   |some (.int .u8)=>one (.r .toStr) [x]
   |_=>none
  |_,_=>none
 |.makeInterface t x=>match P.underlying t with
  |some (.interface _)=>none
  |some _=>one (.p (.uF t)) [x]
  |none=>none
 |.makeFunc fn first aX=>match fn with
  |.yield _=>none
  |fn=>one (.p (.tF fn first.size)) (first.toList++aX.toList)
 |.makeMap _ none=>one (.a .Lm) []
 |.makeSlice t l c=>match P.underlying t with
  |some (.slice e)=>match eS P e,qK P e,mu P e with
   |some n,some b,some z=>if z.cells.length !=n then none else one (.a (.pR z.cells n b)) [l,c]
   |_,_,_=>none
  |_=>none
 |.slice t x lo hi mx=>if mx.isSome&&hi.isNone then none else match P.underlying t with
  |some (.slice e)=>match eS P e with
   |some n=>(pY [some x,lo,hi,mx]).map fun as=>(.p (.slice n lo.isSome hi.isSome mx.isSome),as)
   |none=>none
  |some .string=>if mx.isSome then none else(pY [some x,lo,hi]).map fun as=>(.p (.lP lo.isSome hi.isSome),as)
  |some (.array len e)=>match eS P e with
   |some n=>(pY [some x,lo,hi,mx]).map fun as=>(.p (.lO n len lo.isSome hi.isSome mx.isSome),as)
   |none=>none
  |_=>none
 |.fieldAddr t x i=>match P.underlying t with
  |some (.struct fs)=>match fs[i]? with
   |some f=>match eS P f.type with
    |some (_+1)=>one (.p (.va f.offset)) [x]
    |_=>none
   |none=>none
  |_=>none
 |.field t x i=>match P.underlying t with
  |some (.struct fs)=>match fs[i]? with
   |some f=>match lH P f.type,eS P f.type with
    |some g,some n=>one (.p (.field f.offset n g)) [x]
    |_,_=>none
   |none=>none
  |_=>none
 |.indexAddr t x i=>match P.underlying t with
  |some (.slice e)=>(eS P e).bind fun n=>one (.p (.ak n)) [x,i]
  |some (.array len e)=>(eS P e).bind fun n=>one (.p (.bV n len)) [x,i]
  |_=>none
 |.index t x i=>match P.underlying t with
  |some .string=>one (.p .za) [x,i]
  |some (.array len e)=>match lH P e,eS P e with
   |some g,some n=>one (.p (.EP n len g)) [x,i]
   |_,_=>none
  |_=>none
 |.lookup t m k ok=>match P.underlying t with
  |some (.map kt e)=>match P.underlying kt with
   |some (.int _)=>(mu P e).bind fun z=>one (.r (.lookup ok z)) [m,k]
   |some .string|some .bool=>one .bad [m,k]
   |_=>none
  |_=>none
 |.mapUpdate t m k v|.insert t m k v=>match P.underlying t with
  |some (.map kt _)=>match P.underlying kt with
   |some (.int _)=>one (.e .ins) [m,k,v]
   |some .string|some .bool=>one .bad [m,k,v]
   |_=>none
  |_=>none
 |.range t x=>match P.underlying t with
  |some (.map _ _)=>one (.e .range) [x]
  |_=>none
 |.next it false=>one (.e .next) [it]
 |.entry it=>one (.r .entry) [it]
 |.extract x i=>one (.p (.ext i)) [x]
 |.panic x=>one .panic [x]
 |.typeAssert x xt t ok=>match P.underlying t,P.underlying xt with
  |some (.interface _),_=>none
  |some _,some _=>(mu P t).bind fun z=>one (.p (.qh t ok z)) [x]
  |_,_=>none
 |.call c=>match c.callee with
  |.value f=>(b8 (f::c.args.toList)).map fun rs=>(.call,rs)
  |.invoke r name=>(b8 (r::c.args.toList)).map fun rs=>(.invoke name,rs)
  |.builtin b=>match b,c.args.toList,c.argTypes.toList with
   |.len,[x],[t]=>match P.underlying t with
    |some (.slice _)=>one (.p .dc) [x]
    |some .string=>one (.p .zc) [x]
    |some (.array n _)=>one (.p (.EW n)) [x]
    |some (.map _ _)=>one .bad [x]
    |some (.pointer arr)=>match P.underlying arr with
     |some (.array n _)=>one (.p (.EW n)) [x]
     |_=>none
    |_=>none
   |.max,x::xs,_=>one (.p .mx) (x::xs)
   |.min,x::xs,_=>one (.p .mn) (x::xs)
   |.append,[s,x],t::u::_=>match P.underlying t,P.underlying u with
    |some (.slice e),some d=>if !oG d then none else match eS P e,qK P e,mu P e with
     |some n,some b,some z=>if z.cells.length !=n then none else one (.e (.append n b)) [s,x]
     |_,_,_=>none
    |_,_=>none
   |.copy,[d,x],t::_=>match P.underlying t with
    |some (.slice e)=>(eS P e).bind fun n=>one (.e (.copy n)) [d,x]
    |_=>none
   |.clear,[d],[t]=>match P.underlying t with
    |some (.slice e)=>(mu P e).bind fun z=>one (.e (.clear z.cells)) [d]
    |some (.map _ _)=>one .bad [d]
    |_=>none
   |.delete,[m,k],t::_=>match P.underlying t with
    |some (.map kt _)=>match P.underlying kt with
     |some (.int _)=>one (.e .HD) [m,k]
     |_=>none
    |_=>none
   |_,_,_=>none
 |_=>none
def ux(o:Oper):List bG:=
 match o.guard,o.op with
 |none,.defer c=>match c.callee,c.args.toList with
  |.value f,[]=>match dh f with
   |some r=>[.c (.bool true),r,r,r]
   |none=>[]
  |_,_=>[]
 |none,.call c=>match c.callee with
  |.builtin .recover=>[.c (.bool false),.c (.bool false),.c (.bool false),.c (.bool false)]
  |_=>[]
 |_,_=>[]
def ox(dst:Option Nat)(r:bG):bq:=⟨dst,none,.bad,[.c (.bool true),r,r,r]⟩
def w6(t:Nat):bq:=⟨some t,none,.bad,[.c (.bool false),.c (.bool false),.c (.bool false),.c (.bool false)]⟩
def bH(ops:Array Oper)(o:Oper):bq:=
 let g:Option (Option (Nat×Bool)):=match o.guard with
  |none=>some none
  |some (j,want)=>match(ops[j]?).bind (·.dst) with
   |some d=>some (some (d,want))
   |none=>none
 match g,aA P o.op with
 |some g,some (op,as)=>⟨o.dst,g,op,as⟩
 |_,_=>⟨o.dst,none,.bad,ux o⟩
def bT:gw→Bool
 |.e _|.call|.invoke _|.panic=>true
 |_=>false
def Hl:gw→Bool
 |.r _=>true
 |_=>false
def nu(ops:Array Oper):List Nat:=(Region.before ops).toList
def sV{α:Type}(f:Nat→α→Bool):Nat→List α→Bool
 |_,[]=>true
 |i,x::l=>cond (f i x) (sV f (i+1) l) false
def ig:List bG→List Nat
 |[]=>[]
 |.t i::r=>i::ig r
 |.c _::r=>ig r
def bq.reads(i:bq):List Nat:=(match i.guard with|some (d,_)=>[d]|none=>[])++ig i.args
def bq.names(i:bq):List Nat:=i.dst.toList++i.reads
def nq(x y:bq):Bool:=
 (match x.dst with|some d=>!(y.names.contains d)|none=>true)&&(match y.dst with|some d=>!(x.names.contains d)|none=>true)
def linked(y:bq):List bq→Bool
 |[]=>false
 |z::r=>(bT y.op&&bT z.op)||!(nq y z)||linked y r
def nD:List bq→Bool
 |[]=>true
 |[_]=>true
 |y::z::r=>linked y (z::r)&&nD (z::r)
def uH(bs:List Nat)(l:List bq):Bool:=
 sV (fun j y=>sV (fun i x=>decide (j≤i)||(bs.getD j 0).testBit i||(!(bT x.op&&bT y.op)&&nq x y)) 0 l) 0 l
def kH(bs:List Nat)(ops:List Oper):Bool:=
 sV (fun i o=>decide (bs.getD i 0<2^i)&&Nat.beq (bs.getD i 0) (o.after.toList.foldl (fun s e=>cond (Region.binds .any e) (s|||2^e.on|||bs.getD e.on 0) s) 0)) 0 ops
def ua(bs:List Nat)(EF:List Nat)(i c:Nat):Bool:=
 EF.all fun p=>(!(bs.getD i 0).testBit p||decide (p<c))&&(!(bs.getD p 0).testBit i||!decide (p<c))
def bX(l:List bq):List Nat:=(List.range l.length).filter fun i=>match l[i]? with|some x=>bT x.op|none=>false
def ow(bs:List Nat)(l:List bq)(EF:List Nat)(i:Nat):List Nat:=
 (0::EF.map (· +1)).filter (ua bs EF i)
def kz(bs:List Nat)(l:List bq)(EF:List Nat)(i:Nat):List Nat:=
 match l[i]? with
 |some x=>cond (Hl x.op) (match ow bs l EF i with
   |[_]=>[]
   |cs=>cs) []
 |none=>[]
def gY(ops:Array Oper)(draw:Bool):AC:=
 let l:=ops.toList.map (bH P ops)
 if !draw then .ops l else
 let bs:=nu ops
 if uH bs l&&kH bs ops.toList then .bN l ((List.range l.length).map (kz bs l (bX l))) else .bad
def aD:Code→AC
 |.skip=>.skip
 |.region _ ops draw=>gY P ops draw
 |.seq a b=>.seq (aD a) (aD b)
 |.cond c a b=>match dh c with
  |some r=>.cond r (aD a) (aD b)
  |none=>.bad
 |.block id c=>.block id (aD c)
 |.loop c=>.loop (aD c)
 |.rangeFunc g ps a c=>match dh g with
  |some r=>.rangeFunc r ps.toList (aD a) (aD c)
  |none=>.bad
 |.scope c=>aD c
 |.label _=>.skip
 |.exit id=>.exit id
 |.ret=>.ret
 |_=>.bad
def iB:List ResultVar→Option (List qF)
 |[]=>some []
 |.tmp t::r=>(iB r).map (.tmp t::·)
 |.cell a t::r=>match lH P t,eS P t,iB r with
  |some g,some n,some rs=>some (.cell a n g::rs)
  |_,_,_=>none
def az(fn:Func):Option aC:=
 match fn.body,iB P fn.results.toList with
 |some c,some rs=>if(fn.name== "runtime.NumGoroutine")||!codeOk fn.ntmps (aD P c) then none else some ⟨fn.ntmps,rs,aD P c⟩
 |_,_=>none
end Ads
end Go.Proofs.Ytenafeojcgmnhaa
