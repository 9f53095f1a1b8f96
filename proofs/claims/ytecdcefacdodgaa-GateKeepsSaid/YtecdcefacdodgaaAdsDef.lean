/-
  The abstract deterministic semantics 'Ads': values, heap, instructions, the compiling of the model's operations. No statement about the model stands here.
-/
import GoSem.Dispatch
set_option linter.unusedVariables false
namespace Go.Proofs.Ytecdcefacdodgaa
namespace Ads
inductive AV where
 |bool (b:Bool)
 |int (k:IntKind) (n:Int)
 |str (s:List UInt8)
 |ptr (b o:Nat)
 |iR
 |sl (b o len cap:Nat) (jl:Bool)
 |aq
 |fe (a:Addr)
 |map (b:Nat)
 |ji
 |func (fn:Fn) (first aF:List AV)
 |iP
 |yield (b:Nat)
 |iface (t:Nat) (v:AV)
 |iQ
 |agg (cs:List AV)
 |cC (vs:List AV)
 |fz (k:Nat) (l:List AV)
 |fp (cs:List AV) (o:Nat)
 |rest (b o k:Nat)
 deriving Inhabited
def AV.undef:AV:=.cC []
def AV.cells:AV→List AV
 |.agg cs=>cs
 |v=>[v]
def AV.flat:AV→Bool
 |.agg _|.cC _=>false
 |_=>true
def bY:List AV→Bool
 |[]=>true
 |v::vs=>cond v.flat (bY vs) false
inductive Tr(α:Type) where
 |nil
 |node (l:Tr α) (v:Option α) (r:Tr α)
namespace Tr
variable {α:Type}
def get:Tr α→Nat→Option α
 |.nil,_=>none
 |.node l v r,n=>cond (Nat.beq n 0) v (cond (Nat.beq (n%2) 1) (l.get (n/2)) (r.get (n/2-1)))
def left:Tr α→Tr α
 |.nil=>.nil
 |.node l _ _=>l
def right:Tr α→Tr α
 |.nil=>.nil
 |.node _ _ r=>r
def val:Tr α→Option α
 |.nil=>none
 |.node _ v _=>v
def put(x:Option α):Nat→Tr α→Nat→Tr α
 |0,t,_=>t
 |f+1,t,n=>cond (Nat.beq n 0) (.node t.left x t.right)
   (cond (Nat.beq (n%2) 1) (.node (put x f t.left (n/2)) t.val t.right) (.node t.left t.val (put x f t.right (n/2-1))))
def set(t:Tr α)(n:Nat)(x:α):Tr α:=put (some x) (n+1) t n
def del(t:Tr α)(n:Nat):Tr α:=put none (n+1) t n
end Tr
inductive G9 where
 |bool
 |oZ
 |lG
 |Ag
 |yW
 |iface
 |cells (ks:List Nat)
 deriving Inhabited
inductive pR where
 |Jk
 |pick
 |bin (op:BinOp)
 |eq (k:G9)
 |neq (k:G9)
 |not
 |neg
 |conv(k:IntKind)
 |Fm
 |field (off:Nat) (n:Nat) (agg:Bool)
 |ext (i:Nat)
 |oY
 |vE (off:Nat)
 |aH (size:Nat)
 |ig (size len:Nat)
 |Ga (size len:Nat) (agg:Bool)
 |Gb
 |build (gH:List AV) (parts:List (Nat×Nat))
 |uY (t:Nat)
 |gL (fn:Fn) (WC:Nat)
 |cA
 |Aa
 |Gd (n:Nat)
 |mx
 |mn
 |slice (size:Nat) (lo hi mx:Bool)
 |lQ (lo hi:Bool)
 |gW (size len:Nat) (lo hi mx:Bool)
 |qu (t:Nat) (ok:Bool) (zero:AV)
 deriving Inhabited
inductive Qb where
 |alloc (gH:List AV)
 |box
 |cG (gH:List AV) (len size:Nat) (parts:List Nat)
 |dj (gH:List AV) (size bytes:Nat)
 |NH
 deriving Inhabited
inductive CC where
 |c8
 |bI (n:Nat)
 |lookup (ok:Bool) (zero:AV)
 |toStr
 |Jc
 |entry
 deriving Inhabited
inductive yb where
 |store (n:Nat)
 |append (size bytes:Nat)
 |ye
 |copy (size:Nat)
 |clear (gH:List AV)
 |ins
 |Az
 |range
 |next
 |Jf
 deriving Inhabited
inductive bA where
 |t (i:Nat)
 |c (v:AV)
 deriving Inhabited
inductive fh where
 |p (o:pR)
 |a (o:Qb)
 |r (o:CC)
 |e (o:yb)
 |call
 |invoke (name:String)
 |panic
 |bad
 deriving Inhabited
structure bh where
 dst:Option Nat
 guard:Option (Nat×Bool)
 op:fh
 args:List bA
 deriving Inhabited
inductive AC where
 |skip
 |ops (l:List bh)
 |cm (l:List bh) (win:List (List Nat))
 |seq (a b:AC)
 |cond (c:bA) (a b:AC)
 |block (id:Nat) (c:AC)
 |loop (c:AC)
 |rangeFunc (f:bA) (ps:List Nat) (a b:AC)
 |exit (id:Nat)
 |ret
 |bad
 deriving Inhabited
inductive AX where
 |normal
 |exit (id:Nat)
 |ret
 |panic (v:AV)
 deriving Inhabited
inductive ck where
 |cells (vs:List AV) (wr:Bool) (es:Nat)
 |map (es:List (AV×AV)) (bs:List Nat) (c:Nat)
 |iter (m since:Nat) (seen:List Nat) (last:Nat)
 |loop (st:Nat) (bD:Option AX) (e:Tr AV) (ps:List Nat) (a b:AC)
 |defers
 deriving Inhabited
structure Heap where
 next:Nat
 m:Tr ck
namespace Heap
def get(h:Heap)(b:Nat):Option ck:=h.m.get b
def new(h:Heap)(x:ck):Heap:=⟨h.next+1,h.m.set h.next x⟩
def set(h:Heap)(b:Nat)(x:ck):Heap:=⟨h.next,h.m.set b x⟩
def del(h:Heap)(b:Nat):Heap:=⟨h.next,h.m.del b⟩
def row(h:Heap)(b:Nat):Option (List AV):=
 match h.get b with
 |some (.cells vs _ _)=>some vs
 |_=>none
def c8(h:Heap)(b o:Nat):Option AV:=
 match h.row b with
 |some vs=>vs[o]?
 |none=>none
def bI(h:Heap)(b o n:Nat):Option (List AV):=
 match h.row b with
 |some vs=>cond (Nat.ble (o+n) vs.length) (some ((vs.drop o).take n)) none
 |none=>none
def splice{α:Type}:List α→Nat→List α→List α
 |vs,0,[]=>vs
 |[],_,_=>[]
 |_::vs,0,x::xs=>x::splice vs 0 xs
 |v::vs,o+1,xs=>v::splice vs o xs
def cJ(h:Heap)(b o:Nat)(xs:List AV):Option Heap:=
 match h.get b with
 |some (.cells vs true es)=>cond (Nat.ble (o+xs.length) vs.length&&bY xs) (some (h.set b (.cells (splice vs o xs) true es))) none
 |_=>none
end Heap
inductive qP where
 |tmp (t:Nat)
 |cell (a:Nat) (n:Nat) (agg:Bool)
 deriving Inhabited
structure az where
 ntmps:Nat
 results:List qP
 body:AC
 deriving Inhabited
abbrev Env:=Tr AV
def Env.get(e:Env)(i:Nat):AV:=(Tr.get e i).getD .undef
def Env.put(e:Env)(d:Option Nat)(v:AV):Env:=
 match d with
 |some d=>Tr.set e d v
 |none=>e
def Env.ev(e:Env):bA→AV
 |.t i=>e.get i
 |.c v=>v
def Env.args:List AV→Nat→Env→Env
 |[],_,e=>e
 |v::vs,i,e=>Env.args vs (i+1) (Tr.set e i v)
def Tr.full{α:Type}:Nat→Tr α
 |0=>.nil
 |d+1=>.node (Tr.full d) none (Tr.full d)
def Env.start(n:Nat)(args:List AV):Env:=Env.args args 0 (Tr.full (Nat.log2 n+1))
def vA(n:Nat)(d:Option Nat):Bool:=
 match d with
 |some d=>Nat.ble (d+1) n
 |none=>true
def cP(n:Nat):List bh→Bool
 |[]=>true
 |i::l=>vA n i.dst&&cP n l
def oA(n:Nat):List Nat→Bool
 |[]=>true
 |t::l=>Nat.ble (t+1) n&&oA n l
def codeOk(n:Nat):AC→Bool
 |.ops l=>cP n l
 |.cm l _=>cP n l
 |.seq a b=>codeOk n a&&codeOk n b
 |.cond _ a b=>codeOk n a&&codeOk n b
 |.block _ c=>codeOk n c
 |.loop c=>codeOk n c
 |.rangeFunc _ ps a b=>oA n ps&&codeOk n a&&codeOk n b
 |_=>true
def aR:AC→Bool
 |.seq a b=>aR a&&aR b
 |.cond _ a b=>aR a&&aR b
 |.block _ c=>aR c
 |.loop c=>aR c
 |.rangeFunc _ _ _ _=>false
 |_=>true
def part(cs:List AV)(off n:Nat)(agg:Bool):Option AV:=
 cond agg (cond (Nat.ble (off+n) cs.length) (some (.agg ((cs.drop off).take n))) none) cs[off]?
def qT(op:BinOp)(k:IntKind)(x y:Int):Option AV:=
 match op with
 |.add=>some (.int k (k.wrap (x+y)))
 |.sub=>some (.int k (k.wrap (x-y)))
 |.mul=>some (.int k (k.wrap (x*y)))
 |.quo=>cond (decide (y=0)) none (some (.int k (k.wrap (x.tdiv y))))
 |.rem=>cond (decide (y=0)) none (some (.int k (x.tmod y)))
 |.and=>some (.int k (k.wrap (BitVec.ofInt k.bits x&&&BitVec.ofInt k.bits y).toNat))
 |.or=>some (.int k (k.wrap (BitVec.ofInt k.bits x|||BitVec.ofInt k.bits y).toNat))
 |.xor=>some (.int k (k.wrap (BitVec.ofInt k.bits x^^^BitVec.ofInt k.bits y).toNat))
 |.andNot=>some (.int k (k.wrap (BitVec.ofInt k.bits x&&&~~~BitVec.ofInt k.bits y).toNat))
 |.eql=>some (.bool (x==y))
 |.neq=>some (.bool (x !=y))
 |.lss=>some (.bool (decide (x<y)))
 |.leq=>some (.bool (decide (x≤y)))
 |.gtr=>some (.bool (decide (x>y)))
 |.geq=>some (.bool (decide (x≥y)))
 |_=>none
def ld(op:BinOp)(k:IntKind)(x y:Int):Option AV:=
 cond (decide (y<0)) none
  (match op with
  |.shl=>some (.int k (k.wrap (x*2^(min y.toNat k.bits))))
  |.shr=>some (.int k (x.fdiv (2^(min y.toNat k.bits))))
  |_=>none)
def zx(op:BinOp)(x y:List UInt8):Option AV:=
 match op with
 |.add=>cond (Nat.ble (x.length+y.length) 9223372036854775807) (some (.str (x++y))) none
 |.eql=>some (.bool ((x==y)))
 |.neq=>some (.bool (!(x==y)))
 |.lss=>some (.bool (Go.Op.bytesLess x y))
 |.leq=>some (.bool (Go.Op.bytesLess x y||(x==y)))
 |.gtr=>some (.bool (!(Go.Op.bytesLess x y||(x==y))))
 |.geq=>some (.bool (!Go.Op.bytesLess x y))
 |_=>none
def iN:BinOp→Bool
 |.shl|.shr=>true
 |_=>false
def xA(op:BinOp)(x y:AV):Option AV:=
 match x,y with
 |.int k a,.int k' b=>cond (iN op) (ld op k a b) (cond (decide (k=k')) (qT op k a b) none)
 |.str a,.str b=>zx op a b
 |_,_=>none
def fj(x y:AV):Option Bool:=
 match x,y with
 |.int k a,.int k' b=>cond (decide (k=k')) (some (a==b)) none
 |_,_=>none
def uk(k:Nat)(x y:AV):Option Bool:=
 match k,x,y with
 |0,.int k a,.int k' b=>cond (decide (k=k')) (some (a==b)) none
 |1,.bool a,.bool b=>some (a==b)
 |2,.str a,.str b=>some (a==b)
 |_,_,_=>none
def er:List Nat→List AV→List AV→Option Bool
 |[],_,_=>some true
 |k::ks,x::xs,y::ys=>match uk k x y with
  |some true=>er ks xs ys
  |some false=>some false
  |none=>none
 |_,_,_=>none
def C9(k:G9)(x y:AV):Option Bool:=
 match k,x,y with
 |.cells ks,.agg xs,.agg ys=>er ks xs ys
 |.bool,.bool a,.bool b=>some (a==b)
 |.oZ,.iR,.iR=>some true
 |.oZ,.ptr _ _,.iR=>some false
 |.oZ,.iR,.ptr _ _=>some false
 |.lG,.aq,.aq=>some true
 |.lG,.sl _ _ _ _ _,.aq=>some false
 |.lG,.aq,.sl _ _ _ _ _=>some false
 |.lG,.fe _,.aq=>some false
 |.lG,.aq,.fe _=>some false
 |.lG,.rest _ _ _,.aq=>some false
 |.lG,.aq,.rest _ _ _=>some false
 |.Ag,.ji,.ji=>some true
 |.Ag,.map _,.ji=>some false
 |.Ag,.ji,.map _=>some false
 |.yW,.iP,.iP=>some true
 |.yW,.func _ _ _,.iP=>some false
 |.yW,.iP,.func _ _ _=>some false
 |.yW,.yield _,.iP=>some false
 |.yW,.iP,.yield _=>some false
 |.iface,.iQ,.iQ=>some true
 |.iface,.iQ,.iface _ _=>some false
 |.iface,.iface _ _,.iQ=>some false
 |_,_,_=>none
def fill:List AV→List (Nat×Nat)→List AV→Option (List AV)
 |cs,[],[]=>some cs
 |cs,(o,n)::ps,v::vs=>
  cond (Nat.beq v.cells.length n&&Nat.ble (o+n) cs.length) (fill (Heap.splice cs o v.cells) ps vs) none
 |_,_,_=>none
def asNat:AV→Option Nat
 |.int _ n=>match n with
  |.ofNat m=>some m
  |.negSucc _=>none
 |_=>none
def bounds(len cap:Nat)(lo hi mx:Bool)(args:List AV):Option (Nat×Nat×Nat):=
 let next (f:Bool) (d:Nat) (l:List AV):Option (Nat×List AV):=
  match f,l with
  |false,l=>some (d,l)
  |true,v::l=>(asNat v).map fun n=>(n,l)
  |true,[]=>none
 match next lo 0 args with
 |none=>none
 |some (l,r)=>match next hi len r with
  |none=>none
  |some (h,r)=>match next mx cap r with
   |none=>none
   |some (m,_)=>cond (Nat.ble l h&&Nat.ble h m&&Nat.ble m cap) (some (l,h,m)) none
def max2(x y:AV):Option AV:=
 match x,y with
 |.int k a,.int _ b=>some (.int k (cond (decide (b>a)) b a))
 |_,_=>none
def min2(x y:AV):Option AV:=
 match x,y with
 |.int k a,.int _ b=>some (.int k (cond (decide (b<a)) b a))
 |_,_=>none
def kj(f:AV→AV→Option AV):AV→List AV→Option AV
 |x,[]=>some x
 |x,y::r=>match f x y with
  |some z=>kj f z r
  |none=>none
def pI(o:pR)(args:List AV):Option AV:=
 match o,args with
 |.Jk,[x]=>some x
 |.pick,[.bool c,a,b]=>some (cond c a b)
 |.bin op,[x,y]=>xA op x y
 |.eq k,[x,y]=>(C9 k x y).map .bool
 |.neq k,[x,y]=>(C9 k x y).map fun b=>.bool !b
 |.not,[.bool b]=>some (.bool !b)
 |.neg,[.int k n]=>some (.int k (k.wrap (0-n)))
 |.Fm,[.str s]=>some (.str s)
 |.conv k,[.int _ n]=>some (.int k (k.wrap n))
 |.field off n g,[.agg cs]=>part cs off n g
 |.ext i,[.cC vs]=>vs[i]?
 |.oY,[.ptr b o]=>some (.ptr b o)
 |.vE off,[.ptr b o]=>some (.ptr b (o+off))
 |.aH size,[.sl b o len _ _,i]=>match asNat i with
  |some i=>cond (Nat.ble (i+1) len) (some (.ptr b (o+i*size))) none
  |none=>none
 |.ig size len,[.ptr b o,i]=>match asNat i with
  |some i=>cond (Nat.ble (i+1) len) (some (.ptr b (o+i*size))) none
  |none=>none
 |.Ga size len g,[.agg cs,i]=>match asNat i with
  |some i=>cond (Nat.ble (i+1) len) (part cs (i*size) size g) none
  |none=>none
 |.Gb,[.str s,i]=>match asNat i with
  |some i=>(s[i]?).map fun b=>.int .u8 b.toNat
  |none=>none
 |.build gH parts,args=>(fill gH parts args).map .agg
 |.uY t,[x]=>some (.iface t x)
 |.gL fn n,args=>some (.func fn (args.take n) (args.drop n))
 |.cA,[.sl _ _ len _ _]=>some (.int .i64 len)
 |.cA,[.aq]=>some (.int .i64 0)
 |.cA,[.fe _]=>some (.int .i64 0)
 |.cA,[.rest _ _ _]=>some (.int .i64 0)
 |.Aa,[.str s]=>some (.int .i64 s.length)
 |.Gd n,_=>some (.int .i64 n)
 |.mx,x::r=>kj max2 x r
 |.mn,x::r=>kj min2 x r
 |.slice size lo hi m,.sl b o len cap jl::r=>match bounds len cap lo hi m r with
  |some (l,h,mm)=>cond (Nat.beq mm l&&Nat.beq cap mm&&(jl&&!m&&!Nat.beq l 0)) (some (.rest b o (l*size))) (some (.sl b (o+cond (Nat.beq mm l) 0 (l*size)) (h-l) (mm-l) (cond m false jl)))
  |none=>none
 |.slice _ lo hi m,.aq::r=>match bounds 0 0 lo hi m r with
  |some _=>some .aq
  |none=>none
 |.slice _ lo hi m,.fe a::r=>match bounds 0 0 lo hi m r with
  |some _=>some (.fe a)
  |none=>none
 |.slice _ lo hi m,.rest b o k::r=>match bounds 0 0 lo hi m r with
  |some _=>cond m none (some (.rest b o k))
  |none=>none
 |.lQ lo hi,.str s::r=>match bounds s.length s.length lo hi false r with
  |some (l,h,_)=>some (.str ((s.take h).drop l))
  |none=>none
 |.gW size len lo hi m,.ptr b o::r=>match bounds len len lo hi m r with
  |some (l,h,mm)=>some (.sl b (o+cond (Nat.beq mm l) 0 (l*size)) (h-l) (mm-l) false)
  |none=>none
 |.qu t ok zero,[x]=>match x with
  |.iface u v=>cond (Nat.beq u t) (some (cond ok (.cC [v,.bool true]) v)) (cond ok (some (.cC [zero,.bool false])) none)
  |.iQ=>cond ok (some (.cC [zero,.bool false])) none
  |_=>none
 |_,_=>none
def bR(gH:List AV):Nat→List AV
 |0=>[]
 |n+1=>gH++bR gH n
def aI(o:Qb)(args:List AV):Option (ck×(Nat→AV)):=
 match o,args with
 |.alloc gH,[]=>some (.cells gH true 0,fun b=>.ptr b 0)
 |.box,[v]=>some (.cells v.cells true 0,fun b=>.ptr b 0)
 |.cG gH len size parts,vs=>match fill (bR gH len) (parts.map fun i=>(i*size,size)) vs with
  |some cs=>some (.cells cs true 0,fun b=>.sl b 0 len len false)
  |none=>none
 |.dj gH _ bytes,[l,c]=>match asNat l,asNat c with
  |some l,some c=>cond (Nat.ble l c&&Nat.ble (bytes*c) 140737488355328&&Nat.ble c 9223372036854775807) (some (.cells (bR gH c) true 0,fun b=>.sl b 0 l c false)) none
  |_,_=>none
 |.NH,[]=>some (.map [] [] 0,fun b=>.map b)
 |_,_=>none
def findKey(k:AV):List (AV×AV)→Option (Option AV)
 |[]=>some none
 |(x,v)::r=>match fj k x with
  |some true=>some (some v)
  |some false=>findKey k r
  |none=>none
def putKey(k v:AV):List (AV×AV)→List (AV×AV)
 |[]=>[(k,v)]
 |(x,u)::r=>match fj k x with
  |some true=>(k,v)::r
  |_=>(x,u)::putKey k v r
def cK:List AV→Option (List UInt8)
 |[]=>some []
 |.int .u8 n::r=>(cK r).map fun l=>UInt8.ofNat n.toNat::l
 |_=>none
def od(r:Option AV)(bs:List Nat)(c:Nat):List Nat:=match r with
 |some _=>bs
 |none=>bs++[c]
def vu(r:Option AV)(c:Nat):Nat:=match r with
 |some _=>c
 |none=>c+1
def delKey(k:AV):List (AV×AV)→List (AV×AV)
 |[]=>[]
 |(x,u)::r=>match fj k x with
  |some true=>r
  |_=>(x,u)::delKey k r
def mb(k:AV):List (AV×AV)→List Nat→List Nat
 |(x,_)::r,b::bs=>match fj k x with
  |some true=>bs
  |_=>b::mb k r bs
 |_,bs=>bs
def pY(st:Nat):List Nat→List (AV×AV)→Option AV
 |b::bs,(k,v)::es=>cond (Nat.beq b st) (some (.cC [k,v])) (pY st bs es)
 |_,_=>none
def tG(b:Nat):List Nat→Bool
 |[]=>false
 |c::l=>cond (Nat.beq c b) true (tG b l)
def oe(seen:List Nat):List Nat→List Nat
 |[]=>[]
 |b::bs=>cond (tG b seen) (oe seen bs) (b::oe seen bs)
def AN(last:Nat):List Nat→Bool
 |[]=>false
 |b::bs=>cond (Nat.ble (b+1) last) true (AN last bs)
def oU(seen:List Nat)(last:Nat)(bs:List Nat):Bool:=seen.isEmpty||bs.isEmpty||AN last bs
def rI(o:CC)(args:List AV)(h:Heap):Option AV:=
 match o,args with
 |.c8,[.ptr b o]=>h.c8 b o
 |.bI n,[.ptr b o]=>(h.bI b o n).map .agg
 |.lookup ok zero,[.map b,k]=>match h.get b with
  |some (.map es _ _)=>match findKey k es with
   |some (some v)=>some (cond ok (.cC [v,.bool true]) v)
   |some none=>some (cond ok (.cC [zero,.bool false]) zero)
   |none=>none
  |_=>none
 |.lookup ok zero,[.ji,_]=>some (cond ok (.cC [zero,.bool false]) zero)
 |.toStr,[.aq]=>some (.str [])
 |.toStr,[.fe _]=>some (.str [])
 |.toStr,[.rest _ _ _]=>some (.str [])
 |.toStr,[.sl b o len _ _]=>match h.bI b o len with
  |some cs=>(cK cs).map .str
  |none=>none
 |.Jc,[.ji]=>some (.int .i64 0)
 |.Jc,[.map b]=>match h.get b with
  |some (.map es _ _)=>some (.int .i64 es.length)
  |_=>none
 |.entry,[.ptr it 0]=>match h.get it with
  |some (.iter m _ seen last)=>match seen.getLast?,h.get m with
   |some st,some (.map es bs c)=>cond (Nat.beq c last) (pY st bs es) none
   |_,_=>none
  |_=>none
 |_,_=>none
def aM(size:Nat)(h:Heap):AV→Option (Nat×List AV)
 |.aq=>some (0,[])
 |.fe _=>some (0,[])
 |.rest _ _ _=>some (0,[])
 |.sl b o len _ _=>(h.bI b o (len*size)).map fun cs=>(len,cs)
 |.str s=>cond (Nat.beq size 1) (some (s.length,s.map fun b=>.int .u8 b.toNat)) none
 |_=>none
def eI(o:yb)(args:List AV)(h:Heap):Option (AV×Heap):=
 match o,args with
 |.store n,[.ptr b o,v]=>cond (Nat.beq v.cells.length n) ((h.cJ b o v.cells).map fun h=>(.undef,h)) none
 |.append size bytes,[s,x]=>match aM size h x with
  |none=>none
  |some (n,new)=>cond (bY new) (match s with
   |.aq=>cond (Nat.beq n 0) (some (.aq,h))
     (cond (Nat.ble (n*bytes) 140737488355328&&Nat.ble n 9223372036854775807) (some (.sl h.next 0 n n true,h.new (.cells new true size))) none)
   |.sl b o len cap jl=>cond (Nat.beq n 0&&Nat.ble len cap) (some (.sl b o len cap jl,h)) (cond (Nat.ble (len+n) cap)
     ((h.cJ b (o+len*size) new).map fun h=>(.sl b o (len+n) cap jl,h))
     (cond (Nat.ble ((len+n)*bytes) 140737488355328&&Nat.ble (len+n) 9223372036854775807)
      (match h.get b,h.bI b o (len*size) with
      |some (.cells vs wr es),some old=>cond jl
        (cond (wr&&Nat.beq vs.length (o+len*size)&&Nat.beq cap len&&Nat.beq es size) (some (.sl h.next 0 (len+n) (len+n) true,(h.del b).new (.cells (old++new) true size))) none)
        (some (.sl h.next 0 (len+n) (len+n) true,h.new (.cells (old++new) true size)))
      |_,_=>none) none))
   |.fe a=>cond (Nat.beq n 0) (some (.fe a,h))
     (cond (Nat.ble (n*bytes) 140737488355328&&Nat.ble n 9223372036854775807) (some (.sl h.next 0 n n true,h.new (.cells new true size))) none)
   |_=>none) none
 |.copy size,[d,x]=>match d,aM size h x with
  |.aq,some _=>some (.int .i64 0,h)
  |.fe _,some _=>some (.int .i64 0,h)
  |.sl b o len _ _,some (n,new)=>(h.cJ b o (new.take (min n len*size))).map fun h=>(.int .i64 (min n len),h)
  |_,_=>none
 |.clear gH,[d]=>match d with
  |.aq=>some (.undef,h)
  |.sl b o len _ _=>(h.cJ b o (bR gH len)).map fun h=>(.undef,h)
  |_=>none
 |.ins,[.map b,k,v]=>match h.get b with
  |some (.map es bs c)=>match findKey k es with
   |some r=>some (.undef,h.set b (.map (putKey k v es) (od r bs c) (vu r c)))
   |none=>none
  |_=>none
 |.range,[.map b]=>match h.get b with
  |some (.map _ _ c)=>some (.ptr h.next 0,h.new (.iter b c [] c))
  |_=>none
 |.next,[.ptr it 0]=>match h.get it with
  |some (.iter m _ seen last)=>match h.get m with
   |some (.map _ bs _)=>cond (oU seen last bs&&(oe seen bs).isEmpty) (some (.cC [.bool false],h.del it)) none
   |_=>none
  |_=>none
 |.Jf,[.map b,k]=>match h.get b with
  |some (.map es bs c)=>match findKey k es with
   |some _=>some (.cC [],h.set b (.map (delKey k es) (mb k es bs) c))
   |none=>none
  |_=>none
 |.Az,[.str s]=>some (.sl h.next 0 s.length s.length true,h.new (.cells (s.map fun b=>.int .u8 b.toNat) true 1))
 |_,_=>none
def AK(n:Nat):List Nat→Bool
 |[]=>true
 |b::bs=>cond (Nat.ble (b+1) n) (AK n bs) false
def sr(h:Heap)(it m since:Nat)(seen:List Nat)(c:Nat):List Nat→List (AV×AV)→List (AV×Heap)
 |b::bs,(k,v)::es=>cond (tG b seen) (sr h it m since seen c bs es) ((.cC [.bool true,k,v],h.set it (.iter m since (seen++[b]) c))::sr h it m since seen c bs es)
 |_,_=>[]
def qM(args:List AV)(h:Heap):Option (List (AV×Heap)):=
 match args with
 |[.ptr it 0]=>match h.get it with
  |some (.iter m since seen last)=>match h.get m with
   |some (.map es bs c)=>cond (oU seen last bs&&AK since (oe seen bs)&&!(oe seen bs).isEmpty) (some (sr h it m since seen c bs es)) none
   |_=>none
  |_=>none
 |_=>none
def eK(o:yb)(args:List AV)(h:Heap):Option (AV×Heap):=
 match o,args with
 |.append size bytes,[.sl b o len cap true,x]=>match aM size h x with
  |none=>none
  |some (n,new)=>match h.get b,h.bI b o (len*size) with
   |some (.cells vs true es),some old=>
    cond (bY new&&(!Nat.beq n 0&&Nat.ble ((len+n)*bytes) 140737488355328&&Nat.ble (len+n) 9223372036854775807)&&(Nat.beq vs.length (o+len*size)&&Nat.beq cap len&&Nat.beq es size))
     (some (.sl h.next 0 (len+n) (len+n) true,(h.set b (.cells vs false es)).new (.cells (old++new) false size))) none
   |_,_=>none
 |_,_=>none
mutual
def jh:Nat→Value→Option AV
 |0,_=>none
 |f+1,v=>match v with
  |.bool b=>some (.bool b)
  |.int k n=>some (.int k n)
  |.string s=>some (.str s.data.toList)
  |.pointer none=>some .iR
  |.slice none 0 0=>some .aq
  |.map none=>some .ji
  |.nilFunc=>some .iP
  |.nilIface=>some .iQ
  |.func (.func g) a c=>match oc f a.toList,oc f c.toList with
   |some a,some c=>some (.func (.func g) a c)
   |_,_=>none
  |.iface t v=>(jh f v).map (.iface t)
  |.agg cs=>(oc f cs.toList).map .agg
  |.tuple vs=>(oc f vs.toList).map .cC
  |_=>none
def oc:Nat→List Value→Option (List AV)
 |0,_=>none
 |_+1,[]=>some []
 |f+1,v::vs=>match jh f v,oc f vs with
  |some x,some xs=>some (x::xs)
  |_,_=>none
end
def fuel:Nat:=100000
def cW:Operand→Option bA
 |.tmp t=>some (.t t)
 |.const v=>(jh fuel v).map .c
 |.func f=>some (.c (.func (.func f) [] []))
 |.global _=>none
def bT:List Operand→Option (List bA)
 |[]=>some []
 |x::xs=>match cW x,bT xs with
  |some r,some rs=>some (r::rs)
  |_,_=>none
variable (P:Program)
def ep(t:TypeId):Option Nat:=(P.info? t).map (·.size)
def qU(t:TypeId):Option Nat:=(P.info? t).map (·.bytes)
def mB(t:TypeId):Option AV:=match P.info? t with
 |some i=>i.zero.bind (jh fuel)
 |none=>none
def lF(t:TypeId):Option Bool:=(P.underlying t).map fun
 |.struct _|.array _ _=>true
 |_=>false
def mg:Nat→List Field→Option (List Nat)
 |_,[]=>some []
 |i,f::fs=>cond (f.name != "_" &&Nat.beq f.offset i) (match P.underlying f.type with
  |some (.int _)=>(mg (i+1) fs).map (0::·)
  |some .bool=>(mg (i+1) fs).map (1::·)
  |some .string=>(mg (i+1) fs).map (2::·)
  |_=>none) none
def oL(t:TypeId):Option G9:=
 match P.underlying t with
 |some (.struct fs)=>cond (P.stoodInHeld t||P.eqGuardType P.depth t) none ((mg P 0 fs.toList).map .cells)
 |some .bool=>some .bool
 |some (.pointer _)=>some .oZ
 |some (.slice _)=>some .lG
 |some (.map _ _)=>some .Ag
 |some (.func _ _ _)=>some .yW
 |some (.interface _)=>some .iface
 |_=>none
def eD:Operand→Bool
 |.const _=>true
 |_=>false
def jS(t:TypeId):Bool:=match P.underlying t with
 |some (.interface _)=>true
 |_=>false
def oT:TypeDesc→Bool
 |.slice _|.string=>true
 |_=>false
def nF(fs:Array Field)(i:Nat):Option (Nat×Nat):=
 match fs[i]? with
 |some f=>(ep P f.type).map fun n=>(f.offset,n)
 |none=>none
def partsOf(ps:List (Nat×Operand))(place:Nat→Option (Nat×Nat)):Option (List (Nat×Nat)×List bA):=
 match ps with
 |[]=>some ([],[])
 |(i,x)::r=>match place i,cW x,partsOf r place with
  |some p,some a,some (ps,as)=>some (p::ps,a::as)
  |_,_,_=>none
def qf(xs:List (Option Operand)):Option (List bA):=bT (xs.filterMap id)
def one(op:fh)(xs:List Operand):Option (fh×List bA):=(bT xs).map fun rs=>(op,rs)
def an(o:Op):Option (fh×List bA):=
 match o with
 |.move x|.assign x=>one (.p .Jk) [x]
 |.pick c a b=>one (.p .pick) [c,a,b]
 |.alloc t=>(mB P t).bind fun z=>one (.a (.alloc z.cells)) []
 |.box _ x=>one (.a .box) [x]
 |.build t ps=>match mB P t,P.underlying t with
  |some z,some (.struct fs)=>if !(fs.all fun f=>(ep P f.type).isSome) then none else(partsOf ps.toList (nF P fs)).map fun(l,as)=>(.p (.build z.cells l),as)
  |some z,some (.array _ e)=>match ep P e with
   |some n=>(partsOf ps.toList fun i=>some (i*n,n)).map fun(l,as)=>(.p (.build z.cells l),as)
   |none=>none
  |_,_=>none
 |.buildSlice t len ps=>match P.underlying t with
  |some (.slice e)=>match ep P e,mB P e with
   |some n,some z=>if len*n>2^24||z.cells.length !=n then none else(partsOf ps.toList fun i=>some (i,0)).map fun(l,as)=>(.a (.cG z.cells len n (l.map (·.1))),as)
   |_,_=>none
  |_=>none
 |.load t a=>match lF P t,ep P t with
  |some true,some n=>one (.r (.bI n)) [a]
  |some false,some _=>one (.r .c8) [a]
  |_,_=>none
 |.store t a x=>(ep P t).bind fun n=>one (.e (.store n)) [a,x]
 |.nilCheck x=>one (.p .oY) [x]
 |.binOp op t x y _=>match P.underlying t with
  |some (.int _)|some .string=>one (.p (.bin op)) [x,y]
  |_=>match op with
   |.eql=>if eD x||eD y||!jS P t then(oL P t).bind fun k=>one (.p (.eq k)) [x,y] else none
   |.neq=>if eD x||eD y||!jS P t then(oL P t).bind fun k=>one (.p (.neq k)) [x,y] else none
   |_=>none
 |.unOp .not _ x=>one (.p .not) [x]
 |.unOp .neg _ x=>one (.p .neg) [x]
 |.convert src dst x=>match P.underlying src,P.underlying dst with
  |some _,some (.int k)=>one (.p (.conv k)) [x]
  |some .string,some .string=>one (.p .Fm) [x]
  |some .string,some (.slice e)=>match P.underlying e with
   |some (.int .u8)=>one .bad [x]
   |_=>none
  |some (.slice e),some .string=>match P.underlying e with
   |some (.int .u8)=>one (.r .toStr) [x]
   |_=>none
  |_,_=>none
 |.makeInterface t x=>match P.underlying t with
  |some (.interface _)=>none
  |some _=>one (.p (.uY t)) [x]
  |none=>none
 |.makeFunc fn first aF=>match fn with
  |.yield _=>none
  |fn=>one (.p (.gL fn first.size)) (first.toList++aF.toList)
 |.makeMap _ none=>one (.a .NH) []
 |.makeSlice t l c=>match P.underlying t with
  |some (.slice e)=>match ep P e,qU P e,mB P e with
   |some n,some b,some z=>if z.cells.length !=n then none else one (.a (.dj z.cells n b)) [l,c]
   |_,_,_=>none
  |_=>none
 |.slice t x lo hi mx=>if mx.isSome&&hi.isNone then none else match P.underlying t with
  |some (.slice e)=>match ep P e with
   |some n=>(qf [some x,lo,hi,mx]).map fun as=>(.p (.slice n lo.isSome hi.isSome mx.isSome),as)
   |none=>none
  |some .string=>if mx.isSome then none else(qf [some x,lo,hi]).map fun as=>(.p (.lQ lo.isSome hi.isSome),as)
  |some (.array len e)=>match ep P e with
   |some n=>(qf [some x,lo,hi,mx]).map fun as=>(.p (.gW n len lo.isSome hi.isSome mx.isSome),as)
   |none=>none
  |_=>none
 |.fieldAddr t x i=>match P.underlying t with
  |some (.struct fs)=>match fs[i]? with
   |some f=>match ep P f.type with
    |some (_+1)=>one (.p (.vE f.offset)) [x]
    |_=>none
   |none=>none
  |_=>none
 |.field t x i=>match P.underlying t with
  |some (.struct fs)=>match fs[i]? with
   |some f=>match lF P f.type,ep P f.type with
    |some g,some n=>one (.p (.field f.offset n g)) [x]
    |_,_=>none
   |none=>none
  |_=>none
 |.indexAddr t x i=>match P.underlying t with
  |some (.slice e)=>(ep P e).bind fun n=>one (.p (.aH n)) [x,i]
  |some (.array len e)=>(ep P e).bind fun n=>one (.p (.ig n len)) [x,i]
  |_=>none
 |.index t x i=>match P.underlying t with
  |some .string=>one (.p .Gb) [x,i]
  |some (.array len e)=>match lF P e,ep P e with
   |some g,some n=>one (.p (.Ga n len g)) [x,i]
   |_,_=>none
  |_=>none
 |.lookup t m k ok=>match P.underlying t with
  |some (.map kt e)=>match P.underlying kt with
   |some (.int _)=>(mB P e).bind fun z=>one (.r (.lookup ok z)) [m,k]
   |some .string|some .bool=>one .bad [m,k]
   |_=>none
  |_=>none
 |.mapUpdate t m k v|.insert t m k v=>match P.underlying t with
  |some (.map kt _)=>match P.underlying kt with
   |some (.int _)=>one (.e .ins) [m,k,v]
   |some .string|some .bool=>one .bad [m,k,v]
   |_=>none
  |_=>none
 |.range t x=>match P.underlying t with
  |some (.map _ _)=>one (.e .range) [x]
  |_=>none
 |.next it false=>one (.e .next) [it]
 |.entry it=>one (.r .entry) [it]
 |.extract x i=>one (.p (.ext i)) [x]
 |.panic x=>one .panic [x]
 |.typeAssert x xt t ok=>match P.underlying t,P.underlying xt with
  |some (.interface _),_=>none
  |some _,some _=>(mB P t).bind fun z=>one (.p (.qu t ok z)) [x]
  |_,_=>none
 |.call c=>match c.callee with
  |.value f=>(bT (f::c.args.toList)).map fun rs=>(.call,rs)
  |.invoke r name=>(bT (r::c.args.toList)).map fun rs=>(.invoke name,rs)
  |.builtin b=>match b,c.args.toList,c.argTypes.toList with
   |.len,[x],[t]=>match P.underlying t with
    |some (.slice _)=>one (.p .cA) [x]
    |some .string=>one (.p .Aa) [x]
    |some (.array n _)=>one (.p (.Gd n)) [x]
    |some (.map _ _)=>one .bad [x]
    |some (.pointer arr)=>match P.underlying arr with
     |some (.array n _)=>one (.p (.Gd n)) [x]
     |_=>none
    |_=>none
   |.max,x::xs,_=>one (.p .mx) (x::xs)
   |.min,x::xs,_=>one (.p .mn) (x::xs)
   |.append,[s,x],t::u::_=>match P.underlying t,P.underlying u with
    |some (.slice e),some d=>if !oT d then none else match ep P e,qU P e,mB P e with
     |some n,some b,some z=>if z.cells.length !=n then none else one (.e (.append n b)) [s,x]
     |_,_,_=>none
    |_,_=>none
   |.copy,[d,x],t::_=>match P.underlying t with
    |some (.slice e)=>(ep P e).bind fun n=>one (.e (.copy n)) [d,x]
    |_=>none
   |.clear,[d],[t]=>match P.underlying t with
    |some (.slice e)=>(mB P e).bind fun z=>one (.e (.clear z.cells)) [d]
    |some (.map _ _)=>one .bad [d]
    |_=>none
   |.delete,[m,k],t::_=>match P.underlying t with
    |some (.map kt _)=>match P.underlying kt with
     |some (.int _)=>one (.e .Jf) [m,k]
     |_=>none
    |_=>none
   |_,_,_=>none
 |_=>none
def uT(o:Oper):List bA:=
 match o.guard,o.op with
 |none,.defer c=>match c.callee,c.args.toList with
  |.value f,[]=>match cW f with
   |some r=>[.c (.bool true),r,r,r]
   |none=>[]
  |_,_=>[]
 |none,.call c=>match c.callee with
  |.builtin .recover=>[.c (.bool false),.c (.bool false),.c (.bool false),.c (.bool false)]
  |_=>[]
 |_,_=>[]
def oI(dst:Option Nat)(r:bA):bh:=⟨dst,none,.bad,[.c (.bool true),r,r,r]⟩
def xW(t:Nat):bh:=⟨some t,none,.bad,[.c (.bool false),.c (.bool false),.c (.bool false),.c (.bool false)]⟩
def bw(ops:Array Oper)(o:Oper):bh:=
 let g:Option (Option (Nat×Bool)):=match o.guard with
  |none=>some none
  |some (j,want)=>match(ops[j]?).bind (·.dst) with
   |some d=>some (some (d,want))
   |none=>none
 match g,an P o.op with
 |some g,some (op,as)=>⟨o.dst,g,op,as⟩
 |_,_=>⟨o.dst,none,.bad,uT o⟩
def bH:fh→Bool
 |.e _|.call|.invoke _|.panic=>true
 |_=>false
def I7:fh→Bool
 |.r _=>true
 |_=>false
def nC(ops:Array Oper):List Nat:=(Region.before ops).toList
def sX{α:Type}(f:Nat→α→Bool):Nat→List α→Bool
 |_,[]=>true
 |i,x::l=>cond (f i x) (sX f (i+1) l) false
def gv:List bA→List Nat
 |[]=>[]
 |.t i::r=>i::gv r
 |.c _::r=>gv r
def bh.reads(i:bh):List Nat:=(match i.guard with|some (d,_)=>[d]|none=>[])++gv i.args
def bh.names(i:bh):List Nat:=i.dst.toList++i.reads
def nB(x y:bh):Bool:=
 (match x.dst with|some d=>!(y.names.contains d)|none=>true)&&(match y.dst with|some d=>!(x.names.contains d)|none=>true)
def linked(y:bh):List bh→Bool
 |[]=>false
 |z::r=>(bH y.op&&bH z.op)||!(nB y z)||linked y r
def nJ:List bh→Bool
 |[]=>true
 |[_]=>true
 |y::z::r=>linked y (z::r)&&nJ (z::r)
def u0(bs:List Nat)(l:List bh):Bool:=
 sX (fun j y=>sX (fun i x=>decide (j≤i)||(bs.getD j 0).testBit i||(!(bH x.op&&bH y.op)&&nB x y)) 0 l) 0 l
def kD(bs:List Nat)(ops:List Oper):Bool:=
 sX (fun i o=>decide (bs.getD i 0<2^i)&&Nat.beq (bs.getD i 0) (o.after.toList.foldl (fun s e=>cond (Region.binds .any e) (s|||2^e.on|||bs.getD e.on 0) s) 0)) 0 ops
def ux(bs:List Nat)(FQ:List Nat)(i c:Nat):Bool:=
 FQ.all fun p=>(!(bs.getD i 0).testBit p||decide (p<c))&&(!(bs.getD p 0).testBit i||!decide (p<c))
def bO(l:List bh):List Nat:=(List.range l.length).filter fun i=>match l[i]? with|some x=>bH x.op|none=>false
def oH(bs:List Nat)(l:List bh)(FQ:List Nat)(i:Nat):List Nat:=
 (0::FQ.map (· +1)).filter (ux bs FQ i)
def kf(bs:List Nat)(l:List bh)(FQ:List Nat)(i:Nat):List Nat:=
 match l[i]? with
 |some x=>cond (I7 x.op) (match oH bs l FQ i with
   |[_]=>[]
   |cs=>cs) []
 |none=>[]
def fZ(ops:Array Oper)(draw:Bool):AC:=
 let l:=ops.toList.map (bw P ops)
 if !draw then .ops l else
 let bs:=nC ops
 if u0 bs l&&kD bs ops.toList then .cm l ((List.range l.length).map (kf bs l (bO l))) else .bad
def ay:Code→AC
 |.skip=>.skip
 |.region _ ops draw=>fZ P ops draw
 |.seq a b=>.seq (ay a) (ay b)
 |.cond c a b=>match cW c with
  |some r=>.cond r (ay a) (ay b)
  |none=>.bad
 |.block id c=>.block id (ay c)
 |.loop c=>.loop (ay c)
 |.rangeFunc g ps a c=>match cW g with
  |some r=>.rangeFunc r ps.toList (ay a) (ay c)
  |none=>.bad
 |.scope c=>ay c
 |.label _=>.skip
 |.exit id=>.exit id
 |.ret=>.ret
 |_=>.bad
def gB:List ResultVar→Option (List qP)
 |[]=>some []
 |.tmp t::r=>(gB r).map (.tmp t::·)
 |.cell a t::r=>match lF P t,ep P t,gB r with
  |some g,some n,some rs=>some (.cell a n g::rs)
  |_,_,_=>none
def ak(fn:Func):Option az:=
 match fn.body,gB P fn.results.toList with
 |some c,some rs=>if(fn.name== "runtime.NumGoroutine")||!codeOk fn.ntmps (ay P c) then none else some ⟨fn.ntmps,rs,ay P c⟩
 |_,_=>none
end Ads
end Go.Proofs.Ytecdcefacdodgaa
