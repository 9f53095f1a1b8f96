/-
  The abstract deterministic semantics 'Ads': values, heap, instructions, the compiling of the model's operations. No statement about the model stands here.
-/
import GoSem.Dispatch
set_option linter.unusedVariables false
namespace Go.Proofs.Ytepdklcpagielaa
namespace Ads
inductive AV where
 |bool (b:Bool)
 |int (k:IntKind) (n:Int)
 |str (s:List UInt8)
 |ptr (b o:Nat)
 |kI
 |sl (b o len cap:Nat) (kU:Bool)
 |aD
 |gO (a:Addr)
 |map (b:Nat)
 |kR
 |func (fn:Fn) (first aN:List AV)
 |kH
 |yield (b:Nat)
 |iface (t:Nat) (v:AV)
 |kr
 |agg (cs:List AV)
 |cQ (vs:List AV)
 |fz (k:Nat) (l:List AV)
 |fp (cs:List AV) (o:Nat)
 |rest (b o k:Nat)
 deriving Inhabited
def AV.undef:AV:=.cQ []
def AV.cells:AV→List AV
 |.agg cs=>cs
 |v=>[v]
def AV.flat:AV→Bool
 |.agg _|.cQ _=>false
 |_=>true
def bx:List AV→Bool
 |[]=>true
 |v::vs=>cond v.flat (bx vs) false
inductive Tr(α:Type) where
 |nil
 |node (l:Tr α) (v:Option α) (r:Tr α)
namespace Tr
variable {α:Type}
def get:Tr α→Nat→Option α
 |.nil,_=>none
 |.node l v r,n=>cond (Nat.beq n 0) v (cond (Nat.beq (n%2) 1) (l.get (n/2)) (r.get (n/2-1)))
def left:Tr α→Tr α
 |.nil=>.nil
 |.node l _ _=>l
def right:Tr α→Tr α
 |.nil=>.nil
 |.node _ _ r=>r
def val:Tr α→Option α
 |.nil=>none
 |.node _ v _=>v
def put(x:Option α):Nat→Tr α→Nat→Tr α
 |0,t,_=>t
 |f+1,t,n=>cond (Nat.beq n 0) (.node t.left x t.right)
   (cond (Nat.beq (n%2) 1) (.node (put x f t.left (n/2)) t.val t.right) (.node t.left t.val (put x f t.right (n/2-1))))
def set(t:Tr α)(n:Nat)(x:α):Tr α:=put (some x) (n+1) t n
def del(t:Tr α)(n:Nat):Tr α:=put none (n+1) t n
end Tr
inductive Kb where
 |bool
 |rR
 |oC
 |CJ
 |BM
 |iface
 |cells (ks:List Nat)
 deriving Inhabited
inductive sH where
 |J3
 |pick
 |bin (op:BinOp)
 |eq (k:Kb)
 |neq (k:Kb)
 |not
 |neg
 |conv(k:IntKind)
 |HV
 |field (off:Nat) (n:Nat) (agg:Bool)
 |ext (i:Nat)
 |rQ
 |yH (off:Nat)
 |aE (size:Nat)
 |bT (size len:Nat)
 |IZ (size len:Nat) (agg:Bool)
 |I0
 |build (jm:List AV) (parts:List (Nat×Nat))
 |vo (t:Nat)
 |gJ (fn:Fn) (acp:Nat)
 |bO
 |CG
 |I4 (n:Nat)
 |mx
 |mn
 |slice (size:Nat) (lo hi mx:Bool)
 |nS (lo hi:Bool)
 |iY (size len:Nat) (lo hi mx:Bool)
 |qD (t:Nat) (ok:Bool) (zero:AV)
 deriving Inhabited
inductive Uc where
 |alloc (jm:List AV)
 |box
 |bX (jm:List AV) (len size:Nat) (parts:List Nat)
 |m0 (jm:List AV) (size bytes:Nat)
 |Rj
 deriving Inhabited
inductive E9 where
 |bC
 |bn (n:Nat)
 |lookup (ok:Bool) (zero:AV)
 |toStr
 |Mb
 |entry
 deriving Inhabited
inductive Al where
 |store (n:Nat)
 |append (size bytes:Nat)
 |Ba
 |copy (size:Nat)
 |clear (jm:List AV)
 |ins
 |C0
 |range
 |next
 |Me
 deriving Inhabited
inductive bV where
 |t (i:Nat)
 |c (v:AV)
 deriving Inhabited
inductive gP where
 |p (o:sH)
 |a (o:Uc)
 |r (o:E9)
 |e (o:Al)
 |call
 |invoke (name:String)
 |panic
 |bad
 deriving Inhabited
structure bK where
 dst:Option Nat
 guard:Option (Nat×Bool)
 op:gP
 args:List bV
 deriving Inhabited
inductive AC where
 |skip
 |ops (l:List bK)
 |bH (l:List bK) (win:List (List Nat))
 |seq (a b:AC)
 |cond (c:bV) (a b:AC)
 |block (id:Nat) (c:AC)
 |loop (c:AC)
 |rangeFunc (f:bV) (ps:List Nat) (a b:AC)
 |exit (id:Nat)
 |ret
 |bad
 deriving Inhabited
inductive AX where
 |normal
 |exit (id:Nat)
 |ret
 |panic (v:AV)
 deriving Inhabited
inductive dm where
 |cells (vs:List AV) (wr:Bool) (es:Nat)
 |map (es:List (AV×AV)) (bs:List Nat) (c:Nat)
 |iter (m since:Nat) (seen:List Nat) (last:Nat)
 |loop (st:Nat) (cF:Option AX) (e:Tr AV) (ps:List Nat) (a b:AC)
 |defers
 deriving Inhabited
structure Heap where
 next:Nat
 m:Tr dm
namespace Heap
def get(h:Heap)(b:Nat):Option dm:=h.m.get b
def new(h:Heap)(x:dm):Heap:=⟨h.next+1,h.m.set h.next x⟩
def set(h:Heap)(b:Nat)(x:dm):Heap:=⟨h.next,h.m.set b x⟩
def del(h:Heap)(b:Nat):Heap:=⟨h.next,h.m.del b⟩
def row(h:Heap)(b:Nat):Option (List AV):=
 match h.get b with
 |some (.cells vs _ _)=>some vs
 |_=>none
def bC(h:Heap)(b o:Nat):Option AV:=
 match h.row b with
 |some vs=>vs[o]?
 |none=>none
def bn(h:Heap)(b o n:Nat):Option (List AV):=
 match h.row b with
 |some vs=>cond (Nat.ble (o+n) vs.length) (some ((vs.drop o).take n)) none
 |none=>none
def splice{α:Type}:List α→Nat→List α→List α
 |vs,0,[]=>vs
 |[],_,_=>[]
 |_::vs,0,x::xs=>x::splice vs 0 xs
 |v::vs,o+1,xs=>v::splice vs o xs
def dU(h:Heap)(b o:Nat)(xs:List AV):Option Heap:=
 match h.get b with
 |some (.cells vs true es)=>cond (Nat.ble (o+xs.length) vs.length&&bx xs) (some (h.set b (.cells (splice vs o xs) true es))) none
 |_=>none
end Heap
inductive tF where
 |tmp (t:Nat)
 |cell (a:Nat) (n:Nat) (agg:Bool)
 deriving Inhabited
structure aB where
 ntmps:Nat
 results:List tF
 body:AC
 deriving Inhabited
abbrev Env:=Tr AV
def Env.get(e:Env)(i:Nat):AV:=(Tr.get e i).getD .undef
def Env.put(e:Env)(d:Option Nat)(v:AV):Env:=
 match d with
 |some d=>Tr.set e d v
 |none=>e
def Env.ev(e:Env):bV→AV
 |.t i=>e.get i
 |.c v=>v
def Env.args:List AV→Nat→Env→Env
 |[],_,e=>e
 |v::vs,i,e=>Env.args vs (i+1) (Tr.set e i v)
def Tr.full{α:Type}:Nat→Tr α
 |0=>.nil
 |d+1=>.node (Tr.full d) none (Tr.full d)
def Env.start(n:Nat)(args:List AV):Env:=Env.args args 0 (Tr.full (Nat.log2 n+1))
def yE(n:Nat)(d:Option Nat):Bool:=
 match d with
 |some d=>Nat.ble (d+1) n
 |none=>true
def dQ(n:Nat):List bK→Bool
 |[]=>true
 |i::l=>yE n i.dst&&dQ n l
def qY(n:Nat):List Nat→Bool
 |[]=>true
 |t::l=>Nat.ble (t+1) n&&qY n l
def codeOk(n:Nat):AC→Bool
 |.ops l=>dQ n l
 |.bH l _=>dQ n l
 |.seq a b=>codeOk n a&&codeOk n b
 |.cond _ a b=>codeOk n a&&codeOk n b
 |.block _ c=>codeOk n c
 |.loop c=>codeOk n c
 |.rangeFunc _ ps a b=>qY n ps&&codeOk n a&&codeOk n b
 |_=>true
def bp:AC→Bool
 |.seq a b=>bp a&&bp b
 |.cond _ a b=>bp a&&bp b
 |.block _ c=>bp c
 |.loop c=>bp c
 |.rangeFunc _ _ _ _=>false
 |_=>true
def part(cs:List AV)(off n:Nat)(agg:Bool):Option AV:=
 cond agg (cond (Nat.ble (off+n) cs.length) (some (.agg ((cs.drop off).take n))) none) cs[off]?
def ug(op:BinOp)(k:IntKind)(x y:Int):Option AV:=
 match op with
 |.add=>some (.int k (k.wrap (x+y)))
 |.sub=>some (.int k (k.wrap (x-y)))
 |.mul=>some (.int k (k.wrap (x*y)))
 |.quo=>cond (decide (y=0)) none (some (.int k (k.wrap (x.tdiv y))))
 |.rem=>cond (decide (y=0)) none (some (.int k (x.tmod y)))
 |.and=>some (.int k (k.wrap (BitVec.ofInt k.bits x&&&BitVec.ofInt k.bits y).toNat))
 |.or=>some (.int k (k.wrap (BitVec.ofInt k.bits x|||BitVec.ofInt k.bits y).toNat))
 |.xor=>some (.int k (k.wrap (BitVec.ofInt k.bits x^^^BitVec.ofInt k.bits y).toNat))
 |.andNot=>some (.int k (k.wrap (BitVec.ofInt k.bits x&&&~~~BitVec.ofInt k.bits y).toNat))
 |.eql=>some (.bool (x==y))
 |.neq=>some (.bool (x !=y))
 |.lss=>some (.bool (decide (x<y)))
 |.leq=>some (.bool (decide (x≤y)))
 |.gtr=>some (.bool (decide (x>y)))
 |.geq=>some (.bool (decide (x≥y)))
 |_=>none
def oX(op:BinOp)(k:IntKind)(x y:Int):Option AV:=
 cond (decide (y<0)) none
  (match op with
  |.shl=>some (.int k (k.wrap (x*2^(min y.toNat k.bits))))
  |.shr=>some (.int k (x.fdiv (2^(min y.toNat k.bits))))
  |_=>none)
def Cg(op:BinOp)(x y:List UInt8):Option AV:=
 match op with
 |.add=>cond (Nat.ble (x.length+y.length) 9223372036854775807) (some (.str (x++y))) none
 |.eql=>some (.bool ((x==y)))
 |.neq=>some (.bool (!(x==y)))
 |.lss=>some (.bool (Go.Op.bytesLess x y))
 |.leq=>some (.bool (Go.Op.bytesLess x y||(x==y)))
 |.gtr=>some (.bool (!(Go.Op.bytesLess x y||(x==y))))
 |.geq=>some (.bool (!Go.Op.bytesLess x y))
 |_=>none
def lR:BinOp→Bool
 |.shl|.shr=>true
 |_=>false
def Ao(op:BinOp)(x y:AV):Option AV:=
 match x,y with
 |.int k a,.int k' b=>cond (lR op) (oX op k a b) (cond (decide (k=k')) (ug op k a b) none)
 |.str a,.str b=>Cg op a b
 |_,_=>none
def gV(x y:AV):Option Bool:=
 match x,y with
 |.int k a,.int k' b=>cond (decide (k=k')) (some (a==b)) none
 |_,_=>none
def qK(k:Nat)(x y:AV):Option Bool:=
 match k,x,y with
 |0,.int k a,.int k' b=>cond (decide (k=k')) (some (a==b)) none
 |1,.bool a,.bool b=>some (a==b)
 |2,.str a,.str b=>some (a==b)
 |_,_,_=>none
def eC:List Nat→List AV→List AV→Option Bool
 |[],_,_=>some true
 |k::ks,x::xs,y::ys=>match qK k x y with
  |some true=>eC ks xs ys
  |some false=>some false
  |none=>none
 |_,_,_=>none
def Dd(k:Kb)(x y:AV):Option Bool:=
 match k,x,y with
 |.cells ks,.agg xs,.agg ys=>eC ks xs ys
 |.bool,.bool a,.bool b=>some (a==b)
 |.rR,.kI,.kI=>some true
 |.rR,.ptr _ _,.kI=>some false
 |.rR,.kI,.ptr _ _=>some false
 |.oC,.aD,.aD=>some true
 |.oC,.sl _ _ _ _ _,.aD=>some false
 |.oC,.aD,.sl _ _ _ _ _=>some false
 |.oC,.gO _,.aD=>some false
 |.oC,.aD,.gO _=>some false
 |.oC,.rest _ _ _,.aD=>some false
 |.oC,.aD,.rest _ _ _=>some false
 |.CJ,.kR,.kR=>some true
 |.CJ,.map _,.kR=>some false
 |.CJ,.kR,.map _=>some false
 |.BM,.kH,.kH=>some true
 |.BM,.func _ _ _,.kH=>some false
 |.BM,.kH,.func _ _ _=>some false
 |.BM,.yield _,.kH=>some false
 |.BM,.kH,.yield _=>some false
 |.iface,.kr,.kr=>some true
 |.iface,.kr,.iface _ _=>some false
 |.iface,.iface _ _,.kr=>some false
 |_,_,_=>none
def fill:List AV→List (Nat×Nat)→List AV→Option (List AV)
 |cs,[],[]=>some cs
 |cs,(o,n)::ps,v::vs=>
  cond (Nat.beq v.cells.length n&&Nat.ble (o+n) cs.length) (fill (Heap.splice cs o v.cells) ps vs) none
 |_,_,_=>none
def asNat:AV→Option Nat
 |.int _ n=>match n with
  |.ofNat m=>some m
  |.negSucc _=>none
 |_=>none
def bounds(len cap:Nat)(lo hi mx:Bool)(args:List AV):Option (Nat×Nat×Nat):=
 let next (f:Bool) (d:Nat) (l:List AV):Option (Nat×List AV):=
  match f,l with
  |false,l=>some (d,l)
  |true,v::l=>(asNat v).map fun n=>(n,l)
  |true,[]=>none
 match next lo 0 args with
 |none=>none
 |some (l,r)=>match next hi len r with
  |none=>none
  |some (h,r)=>match next mx cap r with
   |none=>none
   |some (m,_)=>cond (Nat.ble l h&&Nat.ble h m&&Nat.ble m cap) (some (l,h,m)) none
def max2(x y:AV):Option AV:=
 match x,y with
 |.int k a,.int _ b=>some (.int k (cond (decide (b>a)) b a))
 |_,_=>none
def min2(x y:AV):Option AV:=
 match x,y with
 |.int k a,.int _ b=>some (.int k (cond (decide (b<a)) b a))
 |_,_=>none
def mQ(f:AV→AV→Option AV):AV→List AV→Option AV
 |x,[]=>some x
 |x,y::r=>match f x y with
  |some z=>mQ f z r
  |none=>none
def pI(o:sH)(args:List AV):Option AV:=
 match o,args with
 |.J3,[x]=>some x
 |.pick,[.bool c,a,b]=>some (cond c a b)
 |.bin op,[x,y]=>Ao op x y
 |.eq k,[x,y]=>(Dd k x y).map .bool
 |.neq k,[x,y]=>(Dd k x y).map fun b=>.bool !b
 |.not,[.bool b]=>some (.bool !b)
 |.neg,[.int k n]=>some (.int k (k.wrap (0-n)))
 |.HV,[.str s]=>some (.str s)
 |.conv k,[.int _ n]=>some (.int k (k.wrap n))
 |.field off n g,[.agg cs]=>part cs off n g
 |.ext i,[.cQ vs]=>vs[i]?
 |.rQ,[.ptr b o]=>some (.ptr b o)
 |.yH off,[.ptr b o]=>some (.ptr b (o+off))
 |.aE size,[.sl b o len _ _,i]=>match asNat i with
  |some i=>cond (Nat.ble (i+1) len) (some (.ptr b (o+i*size))) none
  |none=>none
 |.bT size len,[.ptr b o,i]=>match asNat i with
  |some i=>cond (Nat.ble (i+1) len) (some (.ptr b (o+i*size))) none
  |none=>none
 |.IZ size len g,[.agg cs,i]=>match asNat i with
  |some i=>cond (Nat.ble (i+1) len) (part cs (i*size) size g) none
  |none=>none
 |.I0,[.str s,i]=>match asNat i with
  |some i=>(s[i]?).map fun b=>.int .u8 b.toNat
  |none=>none
 |.build jm parts,args=>(fill jm parts args).map .agg
 |.vo t,[x]=>some (.iface t x)
 |.gJ fn n,args=>some (.func fn (args.take n) (args.drop n))
 |.bO,[.sl _ _ len _ _]=>some (.int .i64 len)
 |.bO,[.aD]=>some (.int .i64 0)
 |.bO,[.gO _]=>some (.int .i64 0)
 |.bO,[.rest _ _ _]=>some (.int .i64 0)
 |.CG,[.str s]=>some (.int .i64 s.length)
 |.I4 n,_=>some (.int .i64 n)
 |.mx,x::r=>mQ max2 x r
 |.mn,x::r=>mQ min2 x r
 |.slice size lo hi m,.sl b o len cap kU::r=>match bounds len cap lo hi m r with
  |some (l,h,mm)=>cond (Nat.beq mm l&&Nat.beq cap mm&&(kU&&!m&&!Nat.beq l 0)) (some (.rest b o (l*size))) (some (.sl b (o+cond (Nat.beq mm l) 0 (l*size)) (h-l) (mm-l) (cond m false kU)))
  |none=>none
 |.slice _ lo hi m,.aD::r=>match bounds 0 0 lo hi m r with
  |some _=>some .aD
  |none=>none
 |.slice _ lo hi m,.gO a::r=>match bounds 0 0 lo hi m r with
  |some _=>some (.gO a)
  |none=>none
 |.slice _ lo hi m,.rest b o k::r=>match bounds 0 0 lo hi m r with
  |some _=>cond m none (some (.rest b o k))
  |none=>none
 |.nS lo hi,.str s::r=>match bounds s.length s.length lo hi false r with
  |some (l,h,_)=>some (.str ((s.take h).drop l))
  |none=>none
 |.iY size len lo hi m,.ptr b o::r=>match bounds len len lo hi m r with
  |some (l,h,mm)=>some (.sl b (o+cond (Nat.beq mm l) 0 (l*size)) (h-l) (mm-l) false)
  |none=>none
 |.qD t ok zero,[x]=>match x with
  |.iface u v=>cond (Nat.beq u t) (some (cond ok (.cQ [v,.bool true]) v)) (cond ok (some (.cQ [zero,.bool false])) none)
  |.kr=>cond ok (some (.cQ [zero,.bool false])) none
  |_=>none
 |_,_=>none
def ej(jm:List AV):Nat→List AV
 |0=>[]
 |n+1=>jm++ej jm n
def aI(o:Uc)(args:List AV):Option (dm×(Nat→AV)):=
 match o,args with
 |.alloc jm,[]=>some (.cells jm true 0,fun b=>.ptr b 0)
 |.box,[v]=>some (.cells v.cells true 0,fun b=>.ptr b 0)
 |.bX jm len size parts,vs=>match fill (ej jm len) (parts.map fun i=>(i*size,size)) vs with
  |some cs=>some (.cells cs true 0,fun b=>.sl b 0 len len false)
  |none=>none
 |.m0 jm _ bytes,[l,c]=>match asNat l,asNat c with
  |some l,some c=>cond (Nat.ble l c&&Nat.ble (bytes*c) 140737488355328&&Nat.ble c 9223372036854775807) (some (.cells (ej jm c) true 0,fun b=>.sl b 0 l c false)) none
  |_,_=>none
 |.Rj,[]=>some (.map [] [] 0,fun b=>.map b)
 |_,_=>none
def findKey(k:AV):List (AV×AV)→Option (Option AV)
 |[]=>some none
 |(x,v)::r=>match gV k x with
  |some true=>some (some v)
  |some false=>findKey k r
  |none=>none
def putKey(k v:AV):List (AV×AV)→List (AV×AV)
 |[]=>[(k,v)]
 |(x,u)::r=>match gV k x with
  |some true=>(k,v)::r
  |_=>(x,u)::putKey k v r
def dL:List AV→Option (List UInt8)
 |[]=>some []
 |.int .u8 n::r=>(dL r).map fun l=>UInt8.ofNat n.toNat::l
 |_=>none
def qI(r:Option AV)(bs:List Nat)(c:Nat):List Nat:=match r with
 |some _=>bs
 |none=>bs++[c]
def yz(r:Option AV)(c:Nat):Nat:=match r with
 |some _=>c
 |none=>c+1
def delKey(k:AV):List (AV×AV)→List (AV×AV)
 |[]=>[]
 |(x,u)::r=>match gV k x with
  |some true=>r
  |_=>(x,u)::delKey k r
def oq(k:AV):List (AV×AV)→List Nat→List Nat
 |(x,_)::r,b::bs=>match gV k x with
  |some true=>bs
  |_=>b::oq k r bs
 |_,bs=>bs
def sO(st:Nat):List Nat→List (AV×AV)→Option AV
 |b::bs,(k,v)::es=>cond (Nat.beq b st) (some (.cQ [k,v])) (sO st bs es)
 |_,_=>none
def wq(b:Nat):List Nat→Bool
 |[]=>false
 |c::l=>cond (Nat.beq c b) true (wq b l)
def qN(seen:List Nat):List Nat→List Nat
 |[]=>[]
 |b::bs=>cond (wq b seen) (qN seen bs) (b::qN seen bs)
def Dm(last:Nat):List Nat→Bool
 |[]=>false
 |b::bs=>cond (Nat.ble (b+1) last) true (Dm last bs)
def rK(seen:List Nat)(last:Nat)(bs:List Nat):Bool:=seen.isEmpty||bs.isEmpty||Dm last bs
def rI(o:E9)(args:List AV)(h:Heap):Option AV:=
 match o,args with
 |.bC,[.ptr b o]=>h.bC b o
 |.bn n,[.ptr b o]=>(h.bn b o n).map .agg
 |.lookup ok zero,[.map b,k]=>match h.get b with
  |some (.map es _ _)=>match findKey k es with
   |some (some v)=>some (cond ok (.cQ [v,.bool true]) v)
   |some none=>some (cond ok (.cQ [zero,.bool false]) zero)
   |none=>none
  |_=>none
 |.lookup ok zero,[.kR,_]=>some (cond ok (.cQ [zero,.bool false]) zero)
 |.toStr,[.aD]=>some (.str [])
 |.toStr,[.gO _]=>some (.str [])
 |.toStr,[.rest _ _ _]=>some (.str [])
 |.toStr,[.sl b o len _ _]=>match h.bn b o len with
  |some cs=>(dL cs).map .str
  |none=>none
 |.Mb,[.kR]=>some (.int .i64 0)
 |.Mb,[.map b]=>match h.get b with
  |some (.map es _ _)=>some (.int .i64 es.length)
  |_=>none
 |.entry,[.ptr it 0]=>match h.get it with
  |some (.iter m _ seen last)=>match seen.getLast?,h.get m with
   |some st,some (.map es bs c)=>cond (Nat.beq c last) (sO st bs es) none
   |_,_=>none
  |_=>none
 |_,_=>none
def aY(size:Nat)(h:Heap):AV→Option (Nat×List AV)
 |.aD=>some (0,[])
 |.gO _=>some (0,[])
 |.rest _ _ _=>some (0,[])
 |.sl b o len _ _=>(h.bn b o (len*size)).map fun cs=>(len,cs)
 |.str s=>cond (Nat.beq size 1) (some (s.length,s.map fun b=>.int .u8 b.toNat)) none
 |_=>none
def eI(o:Al)(args:List AV)(h:Heap):Option (AV×Heap):=
 match o,args with
 |.store n,[.ptr b o,v]=>cond (Nat.beq v.cells.length n) ((h.dU b o v.cells).map fun h=>(.undef,h)) none
 |.append size bytes,[s,x]=>match aY size h x with
  |none=>none
  |some (n,new)=>cond (bx new) (match s with
   |.aD=>cond (Nat.beq n 0) (some (.aD,h))
     (cond (Nat.ble (n*bytes) 140737488355328&&Nat.ble n 9223372036854775807) (some (.sl h.next 0 n n true,h.new (.cells new true size))) none)
   |.sl b o len cap kU=>cond (Nat.beq n 0&&Nat.ble len cap) (some (.sl b o len cap kU,h)) (cond (Nat.ble (len+n) cap)
     ((h.dU b (o+len*size) new).map fun h=>(.sl b o (len+n) cap kU,h))
     (cond (Nat.ble ((len+n)*bytes) 140737488355328&&Nat.ble (len+n) 9223372036854775807)
      (match h.get b,h.bn b o (len*size) with
      |some (.cells vs wr es),some old=>cond kU
        (cond (wr&&Nat.beq vs.length (o+len*size)&&Nat.beq cap len&&Nat.beq es size) (some (.sl h.next 0 (len+n) (len+n) true,(h.del b).new (.cells (old++new) true size))) none)
        (some (.sl h.next 0 (len+n) (len+n) true,h.new (.cells (old++new) true size)))
      |_,_=>none) none))
   |.gO a=>cond (Nat.beq n 0) (some (.gO a,h))
     (cond (Nat.ble (n*bytes) 140737488355328&&Nat.ble n 9223372036854775807) (some (.sl h.next 0 n n true,h.new (.cells new true size))) none)
   |_=>none) none
 |.copy size,[d,x]=>match d,aY size h x with
  |.aD,some _=>some (.int .i64 0,h)
  |.gO _,some _=>some (.int .i64 0,h)
  |.sl b o len _ _,some (n,new)=>(h.dU b o (new.take (min n len*size))).map fun h=>(.int .i64 (min n len),h)
  |_,_=>none
 |.clear jm,[d]=>match d with
  |.aD=>some (.undef,h)
  |.sl b o len _ _=>(h.dU b o (ej jm len)).map fun h=>(.undef,h)
  |_=>none
 |.ins,[.map b,k,v]=>match h.get b with
  |some (.map es bs c)=>match findKey k es with
   |some r=>some (.undef,h.set b (.map (putKey k v es) (qI r bs c) (yz r c)))
   |none=>none
  |_=>none
 |.range,[.map b]=>match h.get b with
  |some (.map _ _ c)=>some (.ptr h.next 0,h.new (.iter b c [] c))
  |_=>none
 |.next,[.ptr it 0]=>match h.get it with
  |some (.iter m _ seen last)=>match h.get m with
   |some (.map _ bs _)=>cond (rK seen last bs&&(qN seen bs).isEmpty) (some (.cQ [.bool false],h.del it)) none
   |_=>none
  |_=>none
 |.Me,[.map b,k]=>match h.get b with
  |some (.map es bs c)=>match findKey k es with
   |some _=>some (.cQ [],h.set b (.map (delKey k es) (oq k es bs) c))
   |none=>none
  |_=>none
 |.C0,[.str s]=>some (.sl h.next 0 s.length s.length true,h.new (.cells (s.map fun b=>.int .u8 b.toNat) true 1))
 |_,_=>none
def Dk(n:Nat):List Nat→Bool
 |[]=>true
 |b::bs=>cond (Nat.ble (b+1) n) (Dk n bs) false
def vr(h:Heap)(it m since:Nat)(seen:List Nat)(c:Nat):List Nat→List (AV×AV)→List (AV×Heap)
 |b::bs,(k,v)::es=>cond (wq b seen) (vr h it m since seen c bs es) ((.cQ [.bool true,k,v],h.set it (.iter m since (seen++[b]) c))::vr h it m since seen c bs es)
 |_,_=>[]
def tV(args:List AV)(h:Heap):Option (List (AV×Heap)):=
 match args with
 |[.ptr it 0]=>match h.get it with
  |some (.iter m since seen last)=>match h.get m with
   |some (.map es bs c)=>cond (rK seen last bs&&Dk since (qN seen bs)&&!(qN seen bs).isEmpty) (some (vr h it m since seen c bs es)) none
   |_=>none
  |_=>none
 |_=>none
def eK(o:Al)(args:List AV)(h:Heap):Option (AV×Heap):=
 match o,args with
 |.append size bytes,[.sl b o len cap true,x]=>match aY size h x with
  |none=>none
  |some (n,new)=>match h.get b,h.bn b o (len*size) with
   |some (.cells vs true es),some old=>
    cond (bx new&&(!Nat.beq n 0&&Nat.ble ((len+n)*bytes) 140737488355328&&Nat.ble (len+n) 9223372036854775807)&&(Nat.beq vs.length (o+len*size)&&Nat.beq cap len&&Nat.beq es size))
     (some (.sl h.next 0 (len+n) (len+n) true,(h.set b (.cells vs false es)).new (.cells (old++new) false size))) none
   |_,_=>none
 |_,_=>none
mutual
def kQ:Nat→Value→Option AV
 |0,_=>none
 |f+1,v=>match v with
  |.bool b=>some (.bool b)
  |.int k n=>some (.int k n)
  |.string s=>some (.str s.data.toList)
  |.pointer none=>some .kI
  |.slice none 0 0=>some .aD
  |.map none=>some .kR
  |.nilFunc=>some .kH
  |.nilIface=>some .kr
  |.func (.func g) a c=>match qH f a.toList,qH f c.toList with
   |some a,some c=>some (.func (.func g) a c)
   |_,_=>none
  |.iface t v=>(kQ f v).map (.iface t)
  |.agg cs=>(qH f cs.toList).map .agg
  |.tuple vs=>(qH f vs.toList).map .cQ
  |_=>none
def qH:Nat→List Value→Option (List AV)
 |0,_=>none
 |_+1,[]=>some []
 |f+1,v::vs=>match kQ f v,qH f vs with
  |some x,some xs=>some (x::xs)
  |_,_=>none
end
def fuel:Nat:=100000
def ec:Operand→Option bV
 |.tmp t=>some (.t t)
 |.const v=>(kQ fuel v).map .c
 |.func f=>some (.c (.func (.func f) [] []))
 |.global _=>none
def cO:List Operand→Option (List bV)
 |[]=>some []
 |x::xs=>match ec x,cO xs with
  |some r,some rs=>some (r::rs)
  |_,_=>none
variable (P:Program)
def fP(t:TypeId):Option Nat:=(P.info? t).map (·.size)
def uh(t:TypeId):Option Nat:=(P.info? t).map (·.bytes)
def oG(t:TypeId):Option AV:=match P.info? t with
 |some i=>i.zero.bind (kQ fuel)
 |none=>none
def nM(t:TypeId):Option Bool:=(P.underlying t).map fun
 |.struct _|.array _ _=>true
 |_=>false
def ow:Nat→List Field→Option (List Nat)
 |_,[]=>some []
 |i,f::fs=>cond (f.name != "_" &&Nat.beq f.offset i) (match P.underlying f.type with
  |some (.int _)=>(ow (i+1) fs).map (0::·)
  |some .bool=>(ow (i+1) fs).map (1::·)
  |some .string=>(ow (i+1) fs).map (2::·)
  |_=>none) none
def ru(t:TypeId):Option Kb:=
 match P.underlying t with
 |some (.struct fs)=>cond (P.stoodInHeld t||P.eqGuardType P.depth t) none ((ow P 0 fs.toList).map .cells)
 |some .bool=>some .bool
 |some (.pointer _)=>some .rR
 |some (.slice _)=>some .oC
 |some (.map _ _)=>some .CJ
 |some (.func _ _ _)=>some .BM
 |some (.interface _)=>some .iface
 |_=>none
def gw:Operand→Bool
 |.const _=>true
 |_=>false
def mb(t:TypeId):Bool:=match P.underlying t with
 |some (.interface _)=>true
 |_=>false
def rJ:TypeDesc→Bool
 |.slice _|.string=>true
 |_=>false
def p8(fs:Array Field)(i:Nat):Option (Nat×Nat):=
 match fs[i]? with
 |some f=>(fP P f.type).map fun n=>(f.offset,n)
 |none=>none
def partsOf(ps:List (Nat×Operand))(place:Nat→Option (Nat×Nat)):Option (List (Nat×Nat)×List bV):=
 match ps with
 |[]=>some ([],[])
 |(i,x)::r=>match place i,ec x,partsOf r place with
  |some p,some a,some (ps,as)=>some (p::ps,a::as)
  |_,_,_=>none
def tc(xs:List (Option Operand)):Option (List bV):=cO (xs.filterMap id)
def one(op:gP)(xs:List Operand):Option (gP×List bV):=(cO xs).map fun rs=>(op,rs)
def aH(o:Op):Option (gP×List bV):=
 match o with
 |.move x|.assign x=>one (.p .J3) [x]
 |.pick c a b=>one (.p .pick) [c,a,b]
 |.alloc t=>(oG P t).bind fun z=>one (.a (.alloc z.cells)) []
 |.box _ x=>one (.a .box) [x]
 |.build t ps=>match oG P t,P.underlying t with
  |some z,some (.struct fs)=>if !(fs.all fun f=>(fP P f.type).isSome) then none else(partsOf ps.toList (p8 P fs)).map fun(l,as)=>(.p (.build z.cells l),as)
  |some z,some (.array _ e)=>match fP P e with
   |some n=>(partsOf ps.toList fun i=>some (i*n,n)).map fun(l,as)=>(.p (.build z.cells l),as)
   |none=>none
  |_,_=>none
 |.buildSlice t len ps=>match P.underlying t with
  |some (.slice e)=>match fP P e,oG P e with
   |some n,some z=>if len*n>2^24||z.cells.length !=n then none else(partsOf ps.toList fun i=>some (i,0)).map fun(l,as)=>(.a (.bX z.cells len n (l.map (·.1))),as)
   |_,_=>none
  |_=>none
 |.load t a=>match nM P t,fP P t with
  |some true,some n=>one (.r (.bn n)) [a]
  |some false,some _=>one (.r .bC) [a]
  |_,_=>none
 |.store t a x=>(fP P t).bind fun n=>one (.e (.store n)) [a,x]
 |.nilCheck x=>one (.p .rQ) [x]
 |.binOp op t x y _=>match P.underlying t with
  |some (.int _)|some .string=>one (.p (.bin op)) [x,y]
  |_=>match op with
   |.eql=>if gw x||gw y||!mb P t then(ru P t).bind fun k=>one (.p (.eq k)) [x,y] else none
   |.neq=>if gw x||gw y||!mb P t then(ru P t).bind fun k=>one (.p (.neq k)) [x,y] else none
   |_=>none
 |.unOp .not _ x=>one (.p .not) [x]
 |.unOp .neg _ x=>one (.p .neg) [x]
 |.convert src dst x=>match P.underlying src,P.underlying dst with
  |some _,some (.int k)=>one (.p (.conv k)) [x]
  |some .string,some .string=>one (.p .HV) [x]
  |some .string,some (.slice e)=>match P.underlying e with
   |some (.int .u8)=>one .bad [x]
   |_=>none
  |some (.slice e),some .string=>match P.underlying e with
   |some (.int .u8)=>one (.r .toStr) [x]
   |_=>none
  |_,_=>none
 |.makeInterface t x=>match P.underlying t with
  |some (.interface _)=>none
  |some _=>one (.p (.vo t)) [x]
  |none=>none
 |.makeFunc fn first aN=>match fn with
  |.yield _=>none
  |fn=>one (.p (.gJ fn first.size)) (first.toList++aN.toList)
 |.makeMap _ none=>one (.a .Rj) []
 |.makeSlice t l c=>match P.underlying t with
  |some (.slice e)=>match fP P e,uh P e,oG P e with
   |some n,some b,some z=>if z.cells.length !=n then none else one (.a (.m0 z.cells n b)) [l,c]
   |_,_,_=>none
  |_=>none
 |.slice t x lo hi mx=>if mx.isSome&&hi.isNone then none else match P.underlying t with
  |some (.slice e)=>match fP P e with
   |some n=>(tc [some x,lo,hi,mx]).map fun as=>(.p (.slice n lo.isSome hi.isSome mx.isSome),as)
   |none=>none
  |some .string=>if mx.isSome then none else(tc [some x,lo,hi]).map fun as=>(.p (.nS lo.isSome hi.isSome),as)
  |some (.array len e)=>match fP P e with
   |some n=>(tc [some x,lo,hi,mx]).map fun as=>(.p (.iY n len lo.isSome hi.isSome mx.isSome),as)
   |none=>none
  |_=>none
 |.fieldAddr t x i=>match P.underlying t with
  |some (.struct fs)=>match fs[i]? with
   |some f=>match fP P f.type with
    |some (_+1)=>one (.p (.yH f.offset)) [x]
    |_=>none
   |none=>none
  |_=>none
 |.field t x i=>match P.underlying t with
  |some (.struct fs)=>match fs[i]? with
   |some f=>match nM P f.type,fP P f.type with
    |some g,some n=>one (.p (.field f.offset n g)) [x]
    |_,_=>none
   |none=>none
  |_=>none
 |.indexAddr t x i=>match P.underlying t with
  |some (.slice e)=>(fP P e).bind fun n=>one (.p (.aE n)) [x,i]
  |some (.array len e)=>(fP P e).bind fun n=>one (.p (.bT n len)) [x,i]
  |_=>none
 |.index t x i=>match P.underlying t with
  |some .string=>one (.p .I0) [x,i]
  |some (.array len e)=>match nM P e,fP P e with
   |some g,some n=>one (.p (.IZ n len g)) [x,i]
   |_,_=>none
  |_=>none
 |.lookup t m k ok=>match P.underlying t with
  |some (.map kt e)=>match P.underlying kt with
   |some (.int _)=>(oG P e).bind fun z=>one (.r (.lookup ok z)) [m,k]
   |some .string|some .bool=>one .bad [m,k]
   |_=>none
  |_=>none
 |.mapUpdate t m k v|.insert t m k v=>match P.underlying t with
  |some (.map kt _)=>match P.underlying kt with
   |some (.int _)=>one (.e .ins) [m,k,v]
   |some .string|some .bool=>one .bad [m,k,v]
   |_=>none
  |_=>none
 |.range t x=>match P.underlying t with
  |some (.map _ _)=>one (.e .range) [x]
  |_=>none
 |.next it false=>one (.e .next) [it]
 |.entry it=>one (.r .entry) [it]
 |.extract x i=>one (.p (.ext i)) [x]
 |.panic x=>one .panic [x]
 |.typeAssert x xt t ok=>match P.underlying t,P.underlying xt with
  |some (.interface _),_=>none
  |some _,some _=>(oG P t).bind fun z=>one (.p (.qD t ok z)) [x]
  |_,_=>none
 |.call c=>match c.callee with
  |.value f=>(cO (f::c.args.toList)).map fun rs=>(.call,rs)
  |.invoke r name=>(cO (r::c.args.toList)).map fun rs=>(.invoke name,rs)
  |.builtin b=>match b,c.args.toList,c.argTypes.toList with
   |.len,[x],[t]=>match P.underlying t with
    |some (.slice _)=>one (.p .bO) [x]
    |some .string=>one (.p .CG) [x]
    |some (.array n _)=>one (.p (.I4 n)) [x]
    |some (.map _ _)=>one .bad [x]
    |some (.pointer arr)=>match P.underlying arr with
     |some (.array n _)=>one (.p (.I4 n)) [x]
     |_=>none
    |_=>none
   |.max,x::xs,_=>one (.p .mx) (x::xs)
   |.min,x::xs,_=>one (.p .mn) (x::xs)
   |.append,[s,x],t::u::_=>match P.underlying t,P.underlying u with
    |some (.slice e),some d=>if !rJ d then none else match fP P e,uh P e,oG P e with
     |some n,some b,some z=>if z.cells.length !=n then none else one (.e (.append n b)) [s,x]
     |_,_,_=>none
    |_,_=>none
   |.copy,[d,x],t::_=>match P.underlying t with
    |some (.slice e)=>(fP P e).bind fun n=>one (.e (.copy n)) [d,x]
    |_=>none
   |.clear,[d],[t]=>match P.underlying t with
    |some (.slice e)=>(oG P e).bind fun z=>one (.e (.clear z.cells)) [d]
    |some (.map _ _)=>one .bad [d]
    |_=>none
   |.delete,[m,k],t::_=>match P.underlying t with
    |some (.map kt _)=>match P.underlying kt with
     |some (.int _)=>one (.e .Me) [m,k]
     |_=>none
    |_=>none
   |_,_,_=>none
 |_=>none
def xT(o:Oper):List bV:=
 match o.guard,o.op with
 |none,.defer c=>match c.callee,c.args.toList with
  |.value f,[]=>match ec f with
   |some r=>[.c (.bool true),r,r,r]
   |none=>[]
  |_,_=>[]
 |none,.call c=>match c.callee with
  |.builtin .recover=>[.c (.bool false),.c (.bool false),.c (.bool false),.c (.bool false)]
  |_=>[]
 |_,_=>[]
def qJ(dst:Option Nat)(r:bV):bK:=⟨dst,none,.bad,[.c (.bool true),r,r,r]⟩
def zu(t:Nat):bK:=⟨some t,none,.bad,[.c (.bool false),.c (.bool false),.c (.bool false),.c (.bool false)]⟩
def bY(ops:Array Oper)(o:Oper):bK:=
 let g:Option (Option (Nat×Bool)):=match o.guard with
  |none=>some none
  |some (j,want)=>match(ops[j]?).bind (·.dst) with
   |some d=>some (some (d,want))
   |none=>none
 match g,aH P o.op with
 |some g,some (op,as)=>⟨o.dst,g,op,as⟩
 |_,_=>⟨o.dst,none,.bad,xT o⟩
def cC:gP→Bool
 |.e _|.call|.invoke _|.panic=>true
 |_=>false
def LS:gP→Bool
 |.r _=>true
 |_=>false
def pW(ops:Array Oper):List Nat:=(Region.before ops).toList
def vP{α:Type}(f:Nat→α→Bool):Nat→List α→Bool
 |_,[]=>true
 |i,x::l=>cond (f i x) (vP f (i+1) l) false
def iT:List bV→List Nat
 |[]=>[]
 |.t i::r=>i::iT r
 |.c _::r=>iT r
def bK.reads(i:bK):List Nat:=(match i.guard with|some (d,_)=>[d]|none=>[])++iT i.args
def bK.names(i:bK):List Nat:=i.dst.toList++i.reads
def pU(x y:bK):Bool:=
 (match x.dst with|some d=>!(y.names.contains d)|none=>true)&&(match y.dst with|some d=>!(x.names.contains d)|none=>true)
def linked(y:bK):List bK→Bool
 |[]=>false
 |z::r=>(cC y.op&&cC z.op)||!(pU y z)||linked y r
def nO:List bK→Bool
 |[]=>true
 |[_]=>true
 |y::z::r=>linked y (z::r)&&nO (z::r)
def x8(bs:List Nat)(l:List bK):Bool:=
 vP (fun j y=>vP (fun i x=>decide (j≤i)||(bs.getD j 0).testBit i||(!(cC x.op&&cC y.op)&&pU x y)) 0 l) 0 l
def mV(bs:List Nat)(ops:List Oper):Bool:=
 vP (fun i o=>decide (bs.getD i 0<2^i)&&Nat.beq (bs.getD i 0) (o.after.toList.foldl (fun s e=>cond (Region.binds .any e) (s|||2^e.on|||bs.getD e.on 0) s) 0)) 0 ops
def xz(bs:List Nat)(IM:List Nat)(i c:Nat):Bool:=
 IM.all fun p=>(!(bs.getD i 0).testBit p||decide (p<c))&&(!(bs.getD p 0).testBit i||!decide (p<c))
def cK(l:List bK):List Nat:=(List.range l.length).filter fun i=>match l[i]? with|some x=>cC x.op|none=>false
def ri(bs:List Nat)(l:List bK)(IM:List Nat)(i:Nat):List Nat:=
 (0::IM.map (· +1)).filter (xz bs IM i)
def mM(bs:List Nat)(l:List bK)(IM:List Nat)(i:Nat):List Nat:=
 match l[i]? with
 |some x=>cond (LS x.op) (match ri bs l IM i with
   |[_]=>[]
   |cs=>cs) []
 |none=>[]
def iO(ops:Array Oper)(draw:Bool):AC:=
 let l:=ops.toList.map (bY P ops)
 if !draw then .ops l else
 let bs:=pW ops
 if x8 bs l&&mV bs ops.toList then .bH l ((List.range l.length).map (mM bs l (cK l))) else .bad
def aK:Code→AC
 |.skip=>.skip
 |.region _ ops draw=>iO P ops draw
 |.seq a b=>.seq (aK a) (aK b)
 |.cond c a b=>match ec c with
  |some r=>.cond r (aK a) (aK b)
  |none=>.bad
 |.block id c=>.block id (aK c)
 |.loop c=>.loop (aK c)
 |.rangeFunc g ps a c=>match ec g with
  |some r=>.rangeFunc r ps.toList (aK a) (aK c)
  |none=>.bad
 |.scope c=>aK c
 |.label _=>.skip
 |.exit id=>.exit id
 |.ret=>.ret
 |_=>.bad
def jc:List ResultVar→Option (List tF)
 |[]=>some []
 |.tmp t::r=>(jc r).map (.tmp t::·)
 |.cell a t::r=>match nM P t,fP P t,jc r with
  |some g,some n,some rs=>some (.cell a n g::rs)
  |_,_,_=>none
def aq(fn:Func):Option aB:=
 match fn.body,jc P fn.results.toList with
 |some c,some rs=>if(fn.name== "runtime.NumGoroutine")||!codeOk fn.ntmps (aK P c) then none else some ⟨fn.ntmps,rs,aK P c⟩
 |_,_=>none
end Ads
end Go.Proofs.Ytepdklcpagielaa
