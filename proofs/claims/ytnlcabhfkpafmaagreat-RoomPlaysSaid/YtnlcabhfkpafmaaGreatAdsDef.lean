/-
  The abstract deterministic semantics 'Ads': values, heap, instructions, the compiling of the model's operations. No statement about the model stands here.
-/
import GoSem.Dispatch
set_option linter.unusedVariables false
namespace Go.Proofs.YtnlcabhfkpafmaaGreat
namespace Ads
inductive AV where
 |bool (b:Bool)
 |int (k:IntKind) (n:Int)
 |str (s:List UInt8)
 |ptr (b o:Nat)
 |aQ
 |sl (b o len cap:Nat) (lZ:Bool)
 |aL
 |gY (a:Addr)
 |map (b:Nat)
 |kF
 |func (fn:Fn) (first aM:List AV)
 |kf
 |yield (b:Nat)
 |iface (t:Nat) (v:AV)
 |kE
 |agg (cs:List AV)
 |cq (vs:List AV)
 |fz (k:Nat) (l:List AV)
 |fp (cs:List AV) (o:Nat)
 |rest (b o k:Nat)
 deriving Inhabited
def AV.undef:AV:=.cq []
def AV.cells:AV→List AV
 |.agg cs=>cs
 |v=>[v]
def AV.flat:AV→Bool
 |.agg _|.cq _=>false
 |_=>true
def bA:List AV→Bool
 |[]=>true
 |v::vs=>cond v.flat (bA vs) false
inductive Tr(α:Type) where
 |nil
 |node (l:Tr α) (v:Option α) (r:Tr α)
namespace Tr
variable {α:Type}
def get:Tr α→Nat→Option α
 |.nil,_=>none
 |.node l v r,n=>cond (Nat.beq n 0) v (cond (Nat.beq (n%2) 1) (l.get (n/2)) (r.get (n/2-1)))
def left:Tr α→Tr α
 |.nil=>.nil
 |.node l _ _=>l
def right:Tr α→Tr α
 |.nil=>.nil
 |.node _ _ r=>r
def val:Tr α→Option α
 |.nil=>none
 |.node _ v _=>v
def put(x:Option α):Nat→Tr α→Nat→Tr α
 |0,t,_=>t
 |f+1,t,n=>cond (Nat.beq n 0) (.node t.left x t.right)
   (cond (Nat.beq (n%2) 1) (.node (put x f t.left (n/2)) t.val t.right) (.node t.left t.val (put x f t.right (n/2-1))))
def set(t:Tr α)(n:Nat)(x:α):Tr α:=put (some x) (n+1) t n
def del(t:Tr α)(n:Nat):Tr α:=put none (n+1) t n
end Tr
inductive G4 where
 |bool
 |cQ
 |lR
 |zX
 |yN
 |iface
 |cells (ks:List Nat)
 deriving Inhabited
inductive qx where
 |NN
 |pick
 |bin (op:BinOp)
 |eq (k:G4)
 |neq (k:G4)
 |not
 |neg
 |conv(k:IntKind)
 |EZ
 |field (off:Nat) (n:Nat) (agg:Bool)
 |ext (i:Nat)
 |o5
 |vH (off:Nat)
 |az (size:Nat)
 |kC (size len:Nat)
 |IX (size len:Nat) (agg:Bool)
 |C8
 |build (iP:List AV) (parts:List (Nat×Nat))
 |vb (t:Nat)
 |jP (fn:Fn) (ZB:Nat)
 |bL
 |tL
 |I5 (n:Nat)
 |mx
 |mn
 |slice (size:Nat) (lo hi mx:Bool)
 |pE (lo hi:Bool)
 |pz (size len:Nat) (lo hi mx:Bool)
 |sU (t:Nat) (ok:Bool) (zero:AV)
 deriving Inhabited
inductive Sy where
 |alloc (iP:List AV)
 |box
 |de (iP:List AV) (len size:Nat) (parts:List Nat)
 |jT (iP:List AV) (size bytes:Nat)
 |Je
 deriving Inhabited
inductive DL where
 |ck
 |aZ (n:Nat)
 |lookup (ok:Bool) (zero:AV)
 |toStr
 |I6
 |entry
 deriving Inhabited
inductive Cp where
 |store (n:Nat)
 |append (size bytes:Nat)
 |xZ
 |copy (size:Nat)
 |clear (iP:List AV)
 |ins
 |Am
 |range
 |next
 |NK
 deriving Inhabited
inductive bH where
 |t (i:Nat)
 |c (v:AV)
 deriving Inhabited
inductive fH where
 |p (o:qx)
 |a (o:Sy)
 |r (o:DL)
 |e (o:Cp)
 |call
 |invoke (name:String)
 |panic
 |bad
 deriving Inhabited
structure bE where
 dst:Option Nat
 guard:Option (Nat×Bool)
 op:fH
 args:List bH
 deriving Inhabited
inductive AC where
 |skip
 |ops (l:List bE)
 |cn (l:List bE) (win:List (List Nat))
 |seq (a b:AC)
 |cond (c:bH) (a b:AC)
 |block (id:Nat) (c:AC)
 |loop (c:AC)
 |rangeFunc (f:bH) (ps:List Nat) (a b:AC)
 |exit (id:Nat)
 |ret
 |bad
 deriving Inhabited
inductive AX where
 |normal
 |exit (id:Nat)
 |ret
 |panic (v:AV)
 deriving Inhabited
inductive dD where
 |cells (vs:List AV) (wr:Bool) (es:Nat)
 |map (es:List (AV×AV)) (bs:List Nat) (c:Nat)
 |iter (m since:Nat) (seen:List Nat) (last:Nat)
 |loop (st:Nat) (fZ:Option AX) (e:Tr AV) (ps:List Nat) (a b:AC)
 |defers
 deriving Inhabited
structure Heap where
 next:Nat
 m:Tr dD
namespace Heap
def get(h:Heap)(b:Nat):Option dD:=h.m.get b
def new(h:Heap)(x:dD):Heap:=⟨h.next+1,h.m.set h.next x⟩
def set(h:Heap)(b:Nat)(x:dD):Heap:=⟨h.next,h.m.set b x⟩
def del(h:Heap)(b:Nat):Heap:=⟨h.next,h.m.del b⟩
def row(h:Heap)(b:Nat):Option (List AV):=
 match h.get b with
 |some (.cells vs _ _)=>some vs
 |_=>none
def ck(h:Heap)(b o:Nat):Option AV:=
 match h.row b with
 |some vs=>vs[o]?
 |none=>none
def aZ(h:Heap)(b o n:Nat):Option (List AV):=
 match h.row b with
 |some vs=>cond (Nat.ble (o+n) vs.length) (some ((vs.drop o).take n)) none
 |none=>none
def splice{α:Type}:List α→Nat→List α→List α
 |vs,0,[]=>vs
 |[],_,_=>[]
 |_::vs,0,x::xs=>x::splice vs 0 xs
 |v::vs,o+1,xs=>v::splice vs o xs
def fy(h:Heap)(b o:Nat)(xs:List AV):Option Heap:=
 match h.get b with
 |some (.cells vs true es)=>cond (Nat.ble (o+xs.length) vs.length&&bA xs) (some (h.set b (.cells (splice vs o xs) true es))) none
 |_=>none
end Heap
inductive ta where
 |tmp (t:Nat)
 |cell (a:Nat) (n:Nat) (agg:Bool)
 deriving Inhabited
structure an where
 ntmps:Nat
 results:List ta
 body:AC
 deriving Inhabited
abbrev Env:=Tr AV
def Env.get(e:Env)(i:Nat):AV:=(Tr.get e i).getD .undef
def Env.put(e:Env)(d:Option Nat)(v:AV):Env:=
 match d with
 |some d=>Tr.set e d v
 |none=>e
def Env.ev(e:Env):bH→AV
 |.t i=>e.get i
 |.c v=>v
def Env.args:List AV→Nat→Env→Env
 |[],_,e=>e
 |v::vs,i,e=>Env.args vs (i+1) (Tr.set e i v)
def Tr.full{α:Type}:Nat→Tr α
 |0=>.nil
 |d+1=>.node (Tr.full d) none (Tr.full d)
def Env.start(n:Nat)(args:List AV):Env:=Env.args args 0 (Tr.full (Nat.log2 n+1))
def vE(n:Nat)(d:Option Nat):Bool:=
 match d with
 |some d=>Nat.ble (d+1) n
 |none=>true
def cV(n:Nat):List bE→Bool
 |[]=>true
 |i::l=>vE n i.dst&&cV n l
def oI(n:Nat):List Nat→Bool
 |[]=>true
 |t::l=>Nat.ble (t+1) n&&oI n l
def codeOk(n:Nat):AC→Bool
 |.ops l=>cV n l
 |.cn l _=>cV n l
 |.seq a b=>codeOk n a&&codeOk n b
 |.cond _ a b=>codeOk n a&&codeOk n b
 |.block _ c=>codeOk n c
 |.loop c=>codeOk n c
 |.rangeFunc _ ps a b=>oI n ps&&codeOk n a&&codeOk n b
 |_=>true
def bD:AC→Bool
 |.seq a b=>bD a&&bD b
 |.cond _ a b=>bD a&&bD b
 |.block _ c=>bD c
 |.loop c=>bD c
 |.rangeFunc _ _ _ _=>false
 |_=>true
def part(cs:List AV)(off n:Nat)(agg:Bool):Option AV:=
 cond agg (cond (Nat.ble (off+n) cs.length) (some (.agg ((cs.drop off).take n))) none) cs[off]?
def qU(op:BinOp)(k:IntKind)(x y:Int):Option AV:=
 match op with
 |.add=>some (.int k (k.wrap (x+y)))
 |.sub=>some (.int k (k.wrap (x-y)))
 |.mul=>some (.int k (k.wrap (x*y)))
 |.quo=>cond (decide (y=0)) none (some (.int k (k.wrap (x.tdiv y))))
 |.rem=>cond (decide (y=0)) none (some (.int k (x.tmod y)))
 |.and=>some (.int k (k.wrap (BitVec.ofInt k.bits x&&&BitVec.ofInt k.bits y).toNat))
 |.or=>some (.int k (k.wrap (BitVec.ofInt k.bits x|||BitVec.ofInt k.bits y).toNat))
 |.xor=>some (.int k (k.wrap (BitVec.ofInt k.bits x^^^BitVec.ofInt k.bits y).toNat))
 |.andNot=>some (.int k (k.wrap (BitVec.ofInt k.bits x&&&~~~BitVec.ofInt k.bits y).toNat))
 |.eql=>some (.bool (x==y))
 |.neq=>some (.bool (x !=y))
 |.lss=>some (.bool (decide (x<y)))
 |.leq=>some (.bool (decide (x≤y)))
 |.gtr=>some (.bool (decide (x>y)))
 |.geq=>some (.bool (decide (x≥y)))
 |_=>none
def r5(op:BinOp)(k:IntKind)(x y:Int):Option AV:=
 cond (decide (y<0)) none
  (match op with
  |.shl=>some (.int k (k.wrap (x*2^(min y.toNat k.bits))))
  |.shr=>some (.int k (x.fdiv (2^(min y.toNat k.bits))))
  |_=>none)
def zh(op:BinOp)(x y:List UInt8):Option AV:=
 match op with
 |.add=>cond (Nat.ble (x.length+y.length) 9223372036854775807) (some (.str (x++y))) none
 |.eql=>some (.bool ((x==y)))
 |.neq=>some (.bool (!(x==y)))
 |.lss=>some (.bool (Go.Op.bytesLess x y))
 |.leq=>some (.bool (Go.Op.bytesLess x y||(x==y)))
 |.gtr=>some (.bool (!(Go.Op.bytesLess x y||(x==y))))
 |.geq=>some (.bool (!Go.Op.bytesLess x y))
 |_=>none
def mq:BinOp→Bool
 |.shl|.shr=>true
 |_=>false
def xk(op:BinOp)(x y:AV):Option AV:=
 match x,y with
 |.int k a,.int k' b=>cond (mq op) (r5 op k a b) (cond (decide (k=k')) (qU op k a b) none)
 |.str a,.str b=>zh op a b
 |_,_=>none
def fj(x y:AV):Option Bool:=
 match x,y with
 |.int k a,.int k' b=>cond (decide (k=k')) (some (a==b)) none
 |_,_=>none
def uh(k:Nat)(x y:AV):Option Bool:=
 match k,x,y with
 |0,.int k a,.int k' b=>cond (decide (k=k')) (some (a==b)) none
 |1,.bool a,.bool b=>some (a==b)
 |2,.str a,.str b=>some (a==b)
 |_,_,_=>none
def gu:List Nat→List AV→List AV→Option Bool
 |[],_,_=>some true
 |k::ks,x::xs,y::ys=>match uh k x y with
  |some true=>gu ks xs ys
  |some false=>some false
  |none=>none
 |_,_,_=>none
def Ch(k:G4)(x y:AV):Option Bool:=
 match k,x,y with
 |.cells ks,.agg xs,.agg ys=>gu ks xs ys
 |.bool,.bool a,.bool b=>some (a==b)
 |.cQ,.aQ,.aQ=>some true
 |.cQ,.ptr _ _,.aQ=>some false
 |.cQ,.aQ,.ptr _ _=>some false
 |.lR,.aL,.aL=>some true
 |.lR,.sl _ _ _ _ _,.aL=>some false
 |.lR,.aL,.sl _ _ _ _ _=>some false
 |.lR,.gY _,.aL=>some false
 |.lR,.aL,.gY _=>some false
 |.lR,.rest _ _ _,.aL=>some false
 |.lR,.aL,.rest _ _ _=>some false
 |.zX,.kF,.kF=>some true
 |.zX,.map _,.kF=>some false
 |.zX,.kF,.map _=>some false
 |.yN,.kf,.kf=>some true
 |.yN,.func _ _ _,.kf=>some false
 |.yN,.kf,.func _ _ _=>some false
 |.yN,.yield _,.kf=>some false
 |.yN,.kf,.yield _=>some false
 |.iface,.kE,.kE=>some true
 |.iface,.kE,.iface _ _=>some false
 |.iface,.iface _ _,.kE=>some false
 |_,_,_=>none
def fill:List AV→List (Nat×Nat)→List AV→Option (List AV)
 |cs,[],[]=>some cs
 |cs,(o,n)::ps,v::vs=>
  cond (Nat.beq v.cells.length n&&Nat.ble (o+n) cs.length) (fill (Heap.splice cs o v.cells) ps vs) none
 |_,_,_=>none
def asNat:AV→Option Nat
 |.int _ n=>match n with
  |.ofNat m=>some m
  |.negSucc _=>none
 |_=>none
def bounds(len cap:Nat)(lo hi mx:Bool)(args:List AV):Option (Nat×Nat×Nat):=
 let next (f:Bool) (d:Nat) (l:List AV):Option (Nat×List AV):=
  match f,l with
  |false,l=>some (d,l)
  |true,v::l=>(asNat v).map fun n=>(n,l)
  |true,[]=>none
 match next lo 0 args with
 |none=>none
 |some (l,r)=>match next hi len r with
  |none=>none
  |some (h,r)=>match next mx cap r with
   |none=>none
   |some (m,_)=>cond (Nat.ble l h&&Nat.ble h m&&Nat.ble m cap) (some (l,h,m)) none
def max2(x y:AV):Option AV:=
 match x,y with
 |.int k a,.int _ b=>some (.int k (cond (decide (b>a)) b a))
 |_,_=>none
def min2(x y:AV):Option AV:=
 match x,y with
 |.int k a,.int _ b=>some (.int k (cond (decide (b<a)) b a))
 |_,_=>none
def kN(f:AV→AV→Option AV):AV→List AV→Option AV
 |x,[]=>some x
 |x,y::r=>match f x y with
  |some z=>kN f z r
  |none=>none
def pI(o:qx)(args:List AV):Option AV:=
 match o,args with
 |.NN,[x]=>some x
 |.pick,[.bool c,a,b]=>some (cond c a b)
 |.bin op,[x,y]=>xk op x y
 |.eq k,[x,y]=>(Ch k x y).map .bool
 |.neq k,[x,y]=>(Ch k x y).map fun b=>.bool !b
 |.not,[.bool b]=>some (.bool !b)
 |.neg,[.int k n]=>some (.int k (k.wrap (0-n)))
 |.EZ,[.str s]=>some (.str s)
 |.conv k,[.int _ n]=>some (.int k (k.wrap n))
 |.field off n g,[.agg cs]=>part cs off n g
 |.ext i,[.cq vs]=>vs[i]?
 |.o5,[.ptr b o]=>some (.ptr b o)
 |.vH off,[.ptr b o]=>some (.ptr b (o+off))
 |.az size,[.sl b o len _ _,i]=>match asNat i with
  |some i=>cond (Nat.ble (i+1) len) (some (.ptr b (o+i*size))) none
  |none=>none
 |.kC size len,[.ptr b o,i]=>match asNat i with
  |some i=>cond (Nat.ble (i+1) len) (some (.ptr b (o+i*size))) none
  |none=>none
 |.IX size len g,[.agg cs,i]=>match asNat i with
  |some i=>cond (Nat.ble (i+1) len) (part cs (i*size) size g) none
  |none=>none
 |.C8,[.str s,i]=>match asNat i with
  |some i=>(s[i]?).map fun b=>.int .u8 b.toNat
  |none=>none
 |.build iP parts,args=>(fill iP parts args).map .agg
 |.vb t,[x]=>some (.iface t x)
 |.jP fn n,args=>some (.func fn (args.take n) (args.drop n))
 |.bL,[.sl _ _ len _ _]=>some (.int .i64 len)
 |.bL,[.aL]=>some (.int .i64 0)
 |.bL,[.gY _]=>some (.int .i64 0)
 |.bL,[.rest _ _ _]=>some (.int .i64 0)
 |.tL,[.str s]=>some (.int .i64 s.length)
 |.I5 n,_=>some (.int .i64 n)
 |.mx,x::r=>kN max2 x r
 |.mn,x::r=>kN min2 x r
 |.slice size lo hi m,.sl b o len cap lZ::r=>match bounds len cap lo hi m r with
  |some (l,h,mm)=>cond (Nat.beq mm l&&Nat.beq cap mm&&(lZ&&!m&&!Nat.beq l 0)) (some (.rest b o (l*size))) (some (.sl b (o+cond (Nat.beq mm l) 0 (l*size)) (h-l) (mm-l) (cond m false lZ)))
  |none=>none
 |.slice _ lo hi m,.aL::r=>match bounds 0 0 lo hi m r with
  |some _=>some .aL
  |none=>none
 |.slice _ lo hi m,.gY a::r=>match bounds 0 0 lo hi m r with
  |some _=>some (.gY a)
  |none=>none
 |.slice _ lo hi m,.rest b o k::r=>match bounds 0 0 lo hi m r with
  |some _=>cond m none (some (.rest b o k))
  |none=>none
 |.pE lo hi,.str s::r=>match bounds s.length s.length lo hi false r with
  |some (l,h,_)=>some (.str ((s.take h).drop l))
  |none=>none
 |.pz size len lo hi m,.ptr b o::r=>match bounds len len lo hi m r with
  |some (l,h,mm)=>some (.sl b (o+cond (Nat.beq mm l) 0 (l*size)) (h-l) (mm-l) false)
  |none=>none
 |.sU t ok zero,[x]=>match x with
  |.iface u v=>cond (Nat.beq u t) (some (cond ok (.cq [v,.bool true]) v)) (cond ok (some (.cq [zero,.bool false])) none)
  |.kE=>cond ok (some (.cq [zero,.bool false])) none
  |_=>none
 |_,_=>none
def dU(iP:List AV):Nat→List AV
 |0=>[]
 |n+1=>iP++dU iP n
def aI(o:Sy)(args:List AV):Option (dD×(Nat→AV)):=
 match o,args with
 |.alloc iP,[]=>some (.cells iP true 0,fun b=>.ptr b 0)
 |.box,[v]=>some (.cells v.cells true 0,fun b=>.ptr b 0)
 |.de iP len size parts,vs=>match fill (dU iP len) (parts.map fun i=>(i*size,size)) vs with
  |some cs=>some (.cells cs true 0,fun b=>.sl b 0 len len false)
  |none=>none
 |.jT iP _ bytes,[l,c]=>match asNat l,asNat c with
  |some l,some c=>cond (Nat.ble l c&&Nat.ble (bytes*c) 140737488355328&&Nat.ble c 9223372036854775807) (some (.cells (dU iP c) true 0,fun b=>.sl b 0 l c false)) none
  |_,_=>none
 |.Je,[]=>some (.map [] [] 0,fun b=>.map b)
 |_,_=>none
def findKey(k:AV):List (AV×AV)→Option (Option AV)
 |[]=>some none
 |(x,v)::r=>match fj k x with
  |some true=>some (some v)
  |some false=>findKey k r
  |none=>none
def putKey(k v:AV):List (AV×AV)→List (AV×AV)
 |[]=>[(k,v)]
 |(x,u)::r=>match fj k x with
  |some true=>(k,v)::r
  |_=>(x,u)::putKey k v r
def cR:List AV→Option (List UInt8)
 |[]=>some []
 |.int .u8 n::r=>(cR r).map fun l=>UInt8.ofNat n.toNat::l
 |_=>none
def oL(r:Option AV)(bs:List Nat)(c:Nat):List Nat:=match r with
 |some _=>bs
 |none=>bs++[c]
def xo(r:Option AV)(c:Nat):Nat:=match r with
 |some _=>c
 |none=>c+1
def delKey(k:AV):List (AV×AV)→List (AV×AV)
 |[]=>[]
 |(x,u)::r=>match fj k x with
  |some true=>r
  |_=>(x,u)::delKey k r
def mW(k:AV):List (AV×AV)→List Nat→List Nat
 |(x,_)::r,b::bs=>match fj k x with
  |some true=>bs
  |_=>b::mW k r bs
 |_,bs=>bs
def pX(st:Nat):List Nat→List (AV×AV)→Option AV
 |b::bs,(k,v)::es=>cond (Nat.beq b st) (some (.cq [k,v])) (pX st bs es)
 |_,_=>none
def uN(b:Nat):List Nat→Bool
 |[]=>false
 |c::l=>cond (Nat.beq c b) true (uN b l)
def qM(seen:List Nat):List Nat→List Nat
 |[]=>[]
 |b::bs=>cond (uN b seen) (qM seen bs) (b::qM seen bs)
def AE(last:Nat):List Nat→Bool
 |[]=>false
 |b::bs=>cond (Nat.ble (b+1) last) true (AE last bs)
def tK(seen:List Nat)(last:Nat)(bs:List Nat):Bool:=seen.isEmpty||bs.isEmpty||AE last bs
def rI(o:DL)(args:List AV)(h:Heap):Option AV:=
 match o,args with
 |.ck,[.ptr b o]=>h.ck b o
 |.aZ n,[.ptr b o]=>(h.aZ b o n).map .agg
 |.lookup ok zero,[.map b,k]=>match h.get b with
  |some (.map es _ _)=>match findKey k es with
   |some (some v)=>some (cond ok (.cq [v,.bool true]) v)
   |some none=>some (cond ok (.cq [zero,.bool false]) zero)
   |none=>none
  |_=>none
 |.lookup ok zero,[.kF,_]=>some (cond ok (.cq [zero,.bool false]) zero)
 |.toStr,[.aL]=>some (.str [])
 |.toStr,[.gY _]=>some (.str [])
 |.toStr,[.rest _ _ _]=>some (.str [])
 |.toStr,[.sl b o len _ _]=>match h.aZ b o len with
  |some cs=>(cR cs).map .str
  |none=>none
 |.I6,[.kF]=>some (.int .i64 0)
 |.I6,[.map b]=>match h.get b with
  |some (.map es _ _)=>some (.int .i64 es.length)
  |_=>none
 |.entry,[.ptr it 0]=>match h.get it with
  |some (.iter m _ seen last)=>match seen.getLast?,h.get m with
   |some st,some (.map es bs c)=>cond (Nat.beq c last) (pX st bs es) none
   |_,_=>none
  |_=>none
 |_,_=>none
def aW(size:Nat)(h:Heap):AV→Option (Nat×List AV)
 |.aL=>some (0,[])
 |.gY _=>some (0,[])
 |.rest _ _ _=>some (0,[])
 |.sl b o len _ _=>(h.aZ b o (len*size)).map fun cs=>(len,cs)
 |.str s=>cond (Nat.beq size 1) (some (s.length,s.map fun b=>.int .u8 b.toNat)) none
 |_=>none
def eI(o:Cp)(args:List AV)(h:Heap):Option (AV×Heap):=
 match o,args with
 |.store n,[.ptr b o,v]=>cond (Nat.beq v.cells.length n) ((h.fy b o v.cells).map fun h=>(.undef,h)) none
 |.append size bytes,[s,x]=>match aW size h x with
  |none=>none
  |some (n,new)=>cond (bA new) (match s with
   |.aL=>cond (Nat.beq n 0) (some (.aL,h))
     (cond (Nat.ble (n*bytes) 140737488355328&&Nat.ble n 9223372036854775807) (some (.sl h.next 0 n n true,h.new (.cells new true size))) none)
   |.sl b o len cap lZ=>cond (Nat.beq n 0&&Nat.ble len cap) (some (.sl b o len cap lZ,h)) (cond (Nat.ble (len+n) cap)
     ((h.fy b (o+len*size) new).map fun h=>(.sl b o (len+n) cap lZ,h))
     (cond (Nat.ble ((len+n)*bytes) 140737488355328&&Nat.ble (len+n) 9223372036854775807)
      (match h.get b,h.aZ b o (len*size) with
      |some (.cells vs wr es),some old=>cond lZ
        (cond (wr&&Nat.beq vs.length (o+len*size)&&Nat.beq cap len&&Nat.beq es size) (some (.sl h.next 0 (len+n) (len+n) true,(h.del b).new (.cells (old++new) true size))) none)
        (some (.sl h.next 0 (len+n) (len+n) true,h.new (.cells (old++new) true size)))
      |_,_=>none) none))
   |.gY a=>cond (Nat.beq n 0) (some (.gY a,h))
     (cond (Nat.ble (n*bytes) 140737488355328&&Nat.ble n 9223372036854775807) (some (.sl h.next 0 n n true,h.new (.cells new true size))) none)
   |_=>none) none
 |.copy size,[d,x]=>match d,aW size h x with
  |.aL,some _=>some (.int .i64 0,h)
  |.gY _,some _=>some (.int .i64 0,h)
  |.sl b o len _ _,some (n,new)=>(h.fy b o (new.take (min n len*size))).map fun h=>(.int .i64 (min n len),h)
  |_,_=>none
 |.clear iP,[d]=>match d with
  |.aL=>some (.undef,h)
  |.sl b o len _ _=>(h.fy b o (dU iP len)).map fun h=>(.undef,h)
  |_=>none
 |.ins,[.map b,k,v]=>match h.get b with
  |some (.map es bs c)=>match findKey k es with
   |some r=>some (.undef,h.set b (.map (putKey k v es) (oL r bs c) (xo r c)))
   |none=>none
  |_=>none
 |.range,[.map b]=>match h.get b with
  |some (.map _ _ c)=>some (.ptr h.next 0,h.new (.iter b c [] c))
  |_=>none
 |.next,[.ptr it 0]=>match h.get it with
  |some (.iter m _ seen last)=>match h.get m with
   |some (.map _ bs _)=>cond (tK seen last bs&&(qM seen bs).isEmpty) (some (.cq [.bool false],h.del it)) none
   |_=>none
  |_=>none
 |.NK,[.map b,k]=>match h.get b with
  |some (.map es bs c)=>match findKey k es with
   |some _=>some (.cq [],h.set b (.map (delKey k es) (mW k es bs) c))
   |none=>none
  |_=>none
 |.Am,[.str s]=>some (.sl h.next 0 s.length s.length true,h.new (.cells (s.map fun b=>.int .u8 b.toNat) true 1))
 |_,_=>none
def AD(n:Nat):List Nat→Bool
 |[]=>true
 |b::bs=>cond (Nat.ble (b+1) n) (AD n bs) false
def BE(h:Heap)(it m since:Nat)(seen:List Nat)(c:Nat):List Nat→List (AV×AV)→List (AV×Heap)
 |b::bs,(k,v)::es=>cond (uN b seen) (BE h it m since seen c bs es) ((.cq [.bool true,k,v],h.set it (.iter m since (seen++[b]) c))::BE h it m since seen c bs es)
 |_,_=>[]
def yK(args:List AV)(h:Heap):Option (List (AV×Heap)):=
 match args with
 |[.ptr it 0]=>match h.get it with
  |some (.iter m since seen last)=>match h.get m with
   |some (.map es bs c)=>cond (tK seen last bs&&AD since (qM seen bs)&&!(qM seen bs).isEmpty) (some (BE h it m since seen c bs es)) none
   |_=>none
  |_=>none
 |_=>none
def eK(o:Cp)(args:List AV)(h:Heap):Option (AV×Heap):=
 match o,args with
 |.append size bytes,[.sl b o len cap true,x]=>match aW size h x with
  |none=>none
  |some (n,new)=>match h.get b,h.aZ b o (len*size) with
   |some (.cells vs true es),some old=>
    cond (bA new&&(!Nat.beq n 0&&Nat.ble ((len+n)*bytes) 140737488355328&&Nat.ble (len+n) 9223372036854775807)&&(Nat.beq vs.length (o+len*size)&&Nat.beq cap len&&Nat.beq es size))
     (some (.sl h.next 0 (len+n) (len+n) true,(h.set b (.cells vs false es)).new (.cells (old++new) false size))) none
   |_,_=>none
 |_,_=>none
mutual
def jF:Nat→Value→Option AV
 |0,_=>none
 |f+1,v=>match v with
  |.bool b=>some (.bool b)
  |.int k n=>some (.int k n)
  |.string s=>some (.str s.data.toList)
  |.pointer none=>some .aQ
  |.slice none 0 0=>some .aL
  |.map none=>some .kF
  |.nilFunc=>some .kf
  |.nilIface=>some .kE
  |.func (.func g) a c=>match ox f a.toList,ox f c.toList with
   |some a,some c=>some (.func (.func g) a c)
   |_,_=>none
  |.iface t v=>(jF f v).map (.iface t)
  |.agg cs=>(ox f cs.toList).map .agg
  |.tuple vs=>(ox f vs.toList).map .cq
  |_=>none
def ox:Nat→List Value→Option (List AV)
 |0,_=>none
 |_+1,[]=>some []
 |f+1,v::vs=>match jF f v,ox f vs with
  |some x,some xs=>some (x::xs)
  |_,_=>none
end
def fuel:Nat:=100000
def dg:Operand→Option bH
 |.tmp t=>some (.t t)
 |.const v=>(jF fuel v).map .c
 |.func f=>some (.c (.func (.func f) [] []))
 |.global _=>none
def cm:List Operand→Option (List bH)
 |[]=>some []
 |x::xs=>match dg x,cm xs with
  |some r,some rs=>some (r::rs)
  |_,_=>none
variable (P:Program)
def eN(t:TypeId):Option Nat:=(P.info? t).map (·.size)
def qV(t:TypeId):Option Nat:=(P.info? t).map (·.bytes)
def mE(t:TypeId):Option AV:=match P.info? t with
 |some i=>i.zero.bind (jF fuel)
 |none=>none
def lP(t:TypeId):Option Bool:=(P.underlying t).map fun
 |.struct _|.array _ _=>true
 |_=>false
def mj:Nat→List Field→Option (List Nat)
 |_,[]=>some []
 |i,f::fs=>cond (f.name != "_" &&Nat.beq f.offset i) (match P.underlying f.type with
  |some (.int _)=>(mj (i+1) fs).map (0::·)
  |some .bool=>(mj (i+1) fs).map (1::·)
  |some .string=>(mj (i+1) fs).map (2::·)
  |_=>none) none
def oS(t:TypeId):Option G4:=
 match P.underlying t with
 |some (.struct fs)=>cond (P.stoodInHeld t||P.eqGuardType P.depth t) none ((mj P 0 fs.toList).map .cells)
 |some .bool=>some .bool
 |some (.pointer _)=>some .cQ
 |some (.slice _)=>some .lR
 |some (.map _ _)=>some .zX
 |some (.func _ _ _)=>some .yN
 |some (.interface _)=>some .iface
 |_=>none
def fk:Operand→Bool
 |.const _=>true
 |_=>false
def j9(t:TypeId):Bool:=match P.underlying t with
 |some (.interface _)=>true
 |_=>false
def oX:TypeDesc→Bool
 |.slice _|.string=>true
 |_=>false
def nL(fs:Array Field)(i:Nat):Option (Nat×Nat):=
 match fs[i]? with
 |some f=>(eN P f.type).map fun n=>(f.offset,n)
 |none=>none
def partsOf(ps:List (Nat×Operand))(place:Nat→Option (Nat×Nat)):Option (List (Nat×Nat)×List bH):=
 match ps with
 |[]=>some ([],[])
 |(i,x)::r=>match place i,dg x,partsOf r place with
  |some p,some a,some (ps,as)=>some (p::ps,a::as)
  |_,_,_=>none
def qf(xs:List (Option Operand)):Option (List bH):=cm (xs.filterMap id)
def one(op:fH)(xs:List Operand):Option (fH×List bH):=(cm xs).map fun rs=>(op,rs)
def aD(o:Op):Option (fH×List bH):=
 match o with
 |.move x|.assign x=>one (.p .NN) [x]
 |.pick c a b=>one (.p .pick) [c,a,b]
 |.alloc t=>(mE P t).bind fun z=>one (.a (.alloc z.cells)) []
 |.box _ x=>one (.a .box) [x]
 |.build t ps=>match mE P t,P.underlying t with
  |some z,some (.struct fs)=>if !(fs.all fun f=>(eN P f.type).isSome) then none else(partsOf ps.toList (nL P fs)).map fun(l,as)=>(.p (.build z.cells l),as)
  |some z,some (.array _ e)=>match eN P e with
   |some n=>(partsOf ps.toList fun i=>some (i*n,n)).map fun(l,as)=>(.p (.build z.cells l),as)
   |none=>none
  |_,_=>none
 |.buildSlice t len ps=>match P.underlying t with
  |some (.slice e)=>match eN P e,mE P e with
   |some n,some z=>if len*n>2^24||z.cells.length !=n then none else(partsOf ps.toList fun i=>some (i,0)).map fun(l,as)=>(.a (.de z.cells len n (l.map (·.1))),as)
   |_,_=>none
  |_=>none
 |.load t a=>match lP P t,eN P t with
  |some true,some n=>one (.r (.aZ n)) [a]
  |some false,some _=>one (.r .ck) [a]
  |_,_=>none
 |.store t a x=>(eN P t).bind fun n=>one (.e (.store n)) [a,x]
 |.nilCheck x=>one (.p .o5) [x]
 |.binOp op t x y _=>match P.underlying t with
  |some (.int _)|some .string=>one (.p (.bin op)) [x,y]
  |_=>match op with
   |.eql=>if fk x||fk y||!j9 P t then(oS P t).bind fun k=>one (.p (.eq k)) [x,y] else none
   |.neq=>if fk x||fk y||!j9 P t then(oS P t).bind fun k=>one (.p (.neq k)) [x,y] else none
   |_=>none
 |.unOp .not _ x=>one (.p .not) [x]
 |.unOp .neg _ x=>one (.p .neg) [x]
 |.convert src dst x=>match P.underlying src,P.underlying dst with
  |some _,some (.int k)=>one (.p (.conv k)) [x]
  |some .string,some .string=>one (.p .EZ) [x]
  |some .string,some (.slice e)=>match P.underlying e with
   |some (.int .u8)=>one .bad [x]
   |_=>none
  |some (.slice e),some .string=>match P.underlying e with
   |some (.int .u8)=>one (.r .toStr) [x]
   |_=>none
  |_,_=>none
 |.makeInterface t x=>match P.underlying t with
  |some (.interface _)=>none
  |some _=>one (.p (.vb t)) [x]
  |none=>none
 |.makeFunc fn first aM=>match fn with
  |.yield _=>none
  |fn=>one (.p (.jP fn first.size)) (first.toList++aM.toList)
 |.makeMap _ none=>one (.a .Je) []
 |.makeSlice t l c=>match P.underlying t with
  |some (.slice e)=>match eN P e,qV P e,mE P e with
   |some n,some b,some z=>if z.cells.length !=n then none else one (.a (.jT z.cells n b)) [l,c]
   |_,_,_=>none
  |_=>none
 |.slice t x lo hi mx=>if mx.isSome&&hi.isNone then none else match P.underlying t with
  |some (.slice e)=>match eN P e with
   |some n=>(qf [some x,lo,hi,mx]).map fun as=>(.p (.slice n lo.isSome hi.isSome mx.isSome),as)
   |none=>none
  |some .string=>if mx.isSome then none else(qf [some x,lo,hi]).map fun as=>(.p (.pE lo.isSome hi.isSome),as)
  |some (.array len e)=>match eN P e with
   |some n=>(qf [some x,lo,hi,mx]).map fun as=>(.p (.pz n len lo.isSome hi.isSome mx.isSome),as)
   |none=>none
  |_=>none
 |.fieldAddr t x i=>match P.underlying t with
  |some (.struct fs)=>match fs[i]? with
   |some f=>match eN P f.type with
    |some (_+1)=>one (.p (.vH f.offset)) [x]
    |_=>none
   |none=>none
  |_=>none
 |.field t x i=>match P.underlying t with
  |some (.struct fs)=>match fs[i]? with
   |some f=>match lP P f.type,eN P f.type with
    |some g,some n=>one (.p (.field f.offset n g)) [x]
    |_,_=>none
   |none=>none
  |_=>none
 |.indexAddr t x i=>match P.underlying t with
  |some (.slice e)=>(eN P e).bind fun n=>one (.p (.az n)) [x,i]
  |some (.array len e)=>(eN P e).bind fun n=>one (.p (.kC n len)) [x,i]
  |_=>none
 |.index t x i=>match P.underlying t with
  |some .string=>one (.p .C8) [x,i]
  |some (.array len e)=>match lP P e,eN P e with
   |some g,some n=>one (.p (.IX n len g)) [x,i]
   |_,_=>none
  |_=>none
 |.lookup t m k ok=>match P.underlying t with
  |some (.map kt e)=>match P.underlying kt with
   |some (.int _)=>(mE P e).bind fun z=>one (.r (.lookup ok z)) [m,k]
   |some .string|some .bool=>one .bad [m,k]
   |_=>none
  |_=>none
 |.mapUpdate t m k v|.insert t m k v=>match P.underlying t with
  |some (.map kt _)=>match P.underlying kt with
   |some (.int _)=>one (.e .ins) [m,k,v]
   |some .string|some .bool=>one .bad [m,k,v]
   |_=>none
  |_=>none
 |.range t x=>match P.underlying t with
  |some (.map _ _)=>one (.e .range) [x]
  |_=>none
 |.next it false=>one (.e .next) [it]
 |.entry it=>one (.r .entry) [it]
 |.extract x i=>one (.p (.ext i)) [x]
 |.panic x=>one .panic [x]
 |.typeAssert x xt t ok=>match P.underlying t,P.underlying xt with
  |some (.interface _),_=>none
  |some _,some _=>(mE P t).bind fun z=>one (.p (.sU t ok z)) [x]
  |_,_=>none
 |.call c=>match c.callee with
  |.value f=>(cm (f::c.args.toList)).map fun rs=>(.call,rs)
  |.invoke r name=>(cm (r::c.args.toList)).map fun rs=>(.invoke name,rs)
  |.builtin b=>match b,c.args.toList,c.argTypes.toList with
   |.len,[x],[t]=>match P.underlying t with
    |some (.slice _)=>one (.p .bL) [x]
    |some .string=>one (.p .tL) [x]
    |some (.array n _)=>one (.p (.I5 n)) [x]
    |some (.map _ _)=>one .bad [x]
    |some (.pointer arr)=>match P.underlying arr with
     |some (.array n _)=>one (.p (.I5 n)) [x]
     |_=>none
    |_=>none
   |.max,x::xs,_=>one (.p .mx) (x::xs)
   |.min,x::xs,_=>one (.p .mn) (x::xs)
   |.append,[s,x],t::u::_=>match P.underlying t,P.underlying u with
    |some (.slice e),some d=>if !oX d then none else match eN P e,qV P e,mE P e with
     |some n,some b,some z=>if z.cells.length !=n then none else one (.e (.append n b)) [s,x]
     |_,_,_=>none
    |_,_=>none
   |.copy,[d,x],t::_=>match P.underlying t with
    |some (.slice e)=>(eN P e).bind fun n=>one (.e (.copy n)) [d,x]
    |_=>none
   |.clear,[d],[t]=>match P.underlying t with
    |some (.slice e)=>(mE P e).bind fun z=>one (.e (.clear z.cells)) [d]
    |some (.map _ _)=>one .bad [d]
    |_=>none
   |.delete,[m,k],t::_=>match P.underlying t with
    |some (.map kt _)=>match P.underlying kt with
     |some (.int _)=>one (.e .NK) [m,k]
     |_=>none
    |_=>none
   |_,_,_=>none
 |_=>none
def uT(o:Oper):List bH:=
 match o.guard,o.op with
 |none,.defer c=>match c.callee,c.args.toList with
  |.value f,[]=>match dg f with
   |some r=>[.c (.bool true),r,r,r]
   |none=>[]
  |_,_=>[]
 |none,.call c=>match c.callee with
  |.builtin .recover=>[.c (.bool false),.c (.bool false),.c (.bool false),.c (.bool false)]
  |_=>[]
 |_,_=>[]
def qG(dst:Option Nat)(r:bH):bE:=⟨dst,none,.bad,[.c (.bool true),r,r,r]⟩
def z8(t:Nat):bE:=⟨some t,none,.bad,[.c (.bool false),.c (.bool false),.c (.bool false),.c (.bool false)]⟩
def bG(ops:Array Oper)(o:Oper):bE:=
 let g:Option (Option (Nat×Bool)):=match o.guard with
  |none=>some none
  |some (j,want)=>match(ops[j]?).bind (·.dst) with
   |some d=>some (some (d,want))
   |none=>none
 match g,aD P o.op with
 |some g,some (op,as)=>⟨o.dst,g,op,as⟩
 |_,_=>⟨o.dst,none,.bad,uT o⟩
def bU:fH→Bool
 |.e _|.call|.invoke _|.panic=>true
 |_=>false
def IY:fH→Bool
 |.r _=>true
 |_=>false
def nD(ops:Array Oper):List Nat:=(Region.before ops).toList
def tc{α:Type}(f:Nat→α→Bool):Nat→List α→Bool
 |_,[]=>true
 |i,x::l=>cond (f i x) (tc f (i+1) l) false
def gQ:List bH→List Nat
 |[]=>[]
 |.t i::r=>i::gQ r
 |.c _::r=>gQ r
def bE.reads(i:bE):List Nat:=(match i.guard with|some (d,_)=>[d]|none=>[])++gQ i.args
def bE.names(i:bE):List Nat:=i.dst.toList++i.reads
def nC(x y:bE):Bool:=
 (match x.dst with|some d=>!(y.names.contains d)|none=>true)&&(match y.dst with|some d=>!(x.names.contains d)|none=>true)
def linked(y:bE):List bE→Bool
 |[]=>false
 |z::r=>(bU y.op&&bU z.op)||!(nC y z)||linked y r
def rA:List bE→Bool
 |[]=>true
 |[_]=>true
 |y::z::r=>linked y (z::r)&&rA (z::r)
def vh(bs:List Nat)(l:List bE):Bool:=
 tc (fun j y=>tc (fun i x=>decide (j≤i)||(bs.getD j 0).testBit i||(!(bU x.op&&bU y.op)&&nC x y)) 0 l) 0 l
def kU(bs:List Nat)(ops:List Oper):Bool:=
 tc (fun i o=>decide (bs.getD i 0<2^i)&&Nat.beq (bs.getD i 0) (o.after.toList.foldl (fun s e=>cond (Region.binds .any e) (s|||2^e.on|||bs.getD e.on 0) s) 0)) 0 ops
def uw(bs:List Nat)(FD:List Nat)(i c:Nat):Bool:=
 FD.all fun p=>(!(bs.getD i 0).testBit p||decide (p<c))&&(!(bs.getD p 0).testBit i||!decide (p<c))
def b9(l:List bE):List Nat:=(List.range l.length).filter fun i=>match l[i]? with|some x=>bU x.op|none=>false
def oP(bs:List Nat)(l:List bE)(FD:List Nat)(i:Nat):List Nat:=
 (0::FD.map (· +1)).filter (uw bs FD i)
def kJ(bs:List Nat)(l:List bE)(FD:List Nat)(i:Nat):List Nat:=
 match l[i]? with
 |some x=>cond (IY x.op) (match oP bs l FD i with
   |[_]=>[]
   |cs=>cs) []
 |none=>[]
def gK(ops:Array Oper)(draw:Bool):AC:=
 let l:=ops.toList.map (bG P ops)
 if !draw then .ops l else
 let bs:=nD ops
 if vh bs l&&kU bs ops.toList then .cn l ((List.range l.length).map (kJ bs l (b9 l))) else .bad
def aE:Code→AC
 |.skip=>.skip
 |.region _ ops draw=>gK P ops draw
 |.seq a b=>.seq (aE a) (aE b)
 |.cond c a b=>match dg c with
  |some r=>.cond r (aE a) (aE b)
  |none=>.bad
 |.block id c=>.block id (aE c)
 |.loop c=>.loop (aE c)
 |.rangeFunc g ps a c=>match dg g with
  |some r=>.rangeFunc r ps.toList (aE a) (aE c)
  |none=>.bad
 |.scope c=>aE c
 |.label _=>.skip
 |.exit id=>.exit id
 |.ret=>.ret
 |_=>.bad
def ig:List ResultVar→Option (List ta)
 |[]=>some []
 |.tmp t::r=>(ig r).map (.tmp t::·)
 |.cell a t::r=>match lP P t,eN P t,ig r with
  |some g,some n,some rs=>some (.cell a n g::rs)
  |_,_,_=>none
def ai(fn:Func):Option an:=
 match fn.body,ig P fn.results.toList with
 |some c,some rs=>if(fn.name== "runtime.NumGoroutine")||!codeOk fn.ntmps (aE P c) then none else some ⟨fn.ntmps,rs,aE P c⟩
 |_,_=>none
end Ads
end Go.Proofs.YtnlcabhfkpafmaaGreat
