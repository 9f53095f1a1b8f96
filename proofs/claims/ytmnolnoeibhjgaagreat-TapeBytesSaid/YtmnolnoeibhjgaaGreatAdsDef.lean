/-
  The abstract deterministic semantics 'Ads': values, heap, instructions, the compiling of the model's operations. No statement about the model stands here.
-/
import GoSem.Dispatch
set_option linter.unusedVariables false
namespace Go.Proofs.YtmnolnoeibhjgaaGreat
namespace Ads
inductive AV where
 |bool (b:Bool)
 |int (k:IntKind) (n:Int)
 |str (s:List UInt8)
 |ptr (b o:Nat)
 |bJ
 |sl (b o len cap:Nat) (jv:Bool)
 |az
 |fE (a:Addr)
 |map (b:Nat)
 |jg
 |func (fn:Fn) (first aO:List AV)
 |iZ
 |yield (b:Nat)
 |iface (t:Nat) (v:AV)
 |ja
 |agg (cs:List AV)
 |dO (vs:List AV)
 |fz (k:Nat) (l:List AV)
 |fp (cs:List AV) (o:Nat)
 |rest (b o k:Nat)
 deriving Inhabited
def AV.undef:AV:=.dO []
def AV.cells:AV→List AV
 |.agg cs=>cs
 |v=>[v]
def AV.flat:AV→Bool
 |.agg _|.dO _=>false
 |_=>true
def bz:List AV→Bool
 |[]=>true
 |v::vs=>cond v.flat (bz vs) false
inductive Tr(α:Type) where
 |nil
 |node (l:Tr α) (v:Option α) (r:Tr α)
namespace Tr
variable {α:Type}
def get:Tr α→Nat→Option α
 |.nil,_=>none
 |.node l v r,n=>cond (Nat.beq n 0) v (cond (Nat.beq (n%2) 1) (l.get (n/2)) (r.get (n/2-1)))
def left:Tr α→Tr α
 |.nil=>.nil
 |.node l _ _=>l
def right:Tr α→Tr α
 |.nil=>.nil
 |.node _ _ r=>r
def val:Tr α→Option α
 |.nil=>none
 |.node _ v _=>v
def put(x:Option α):Nat→Tr α→Nat→Tr α
 |0,t,_=>t
 |f+1,t,n=>cond (Nat.beq n 0) (.node t.left x t.right)
   (cond (Nat.beq (n%2) 1) (.node (put x f t.left (n/2)) t.val t.right) (.node t.left t.val (put x f t.right (n/2-1))))
def set(t:Tr α)(n:Nat)(x:α):Tr α:=put (some x) (n+1) t n
def del(t:Tr α)(n:Nat):Tr α:=put none (n+1) t n
end Tr
inductive FO where
 |bool
 |dF
 |iW
 |zv
 |ym
 |iface
 |cells (ks:List Nat)
 deriving Inhabited
inductive pQ where
 |yh
 |pick
 |bin (op:BinOp)
 |eq (k:FO)
 |neq (k:FO)
 |not
 |neg
 |conv(k:IntKind)
 |Ef
 |field (off:Nat) (n:Nat) (agg:Bool)
 |ext (i:Nat)
 |o7
 |vo (off:Nat)
 |aB (size:Nat)
 |jD (size len:Nat)
 |Ba (size len:Nat) (agg:Bool)
 |CH
 |build (iy:List AV) (parts:List (Nat×Nat))
 |p8 (t:Nat)
 |ec (fn:Fn) (YD:Nat)
 |aV
 |lC
 |E2 (n:Nat)
 |mx
 |mn
 |slice (size:Nat) (lo hi mx:Bool)
 |gN (lo hi:Bool)
 |iL (size len:Nat) (lo hi mx:Bool)
 |nZ (t:Nat) (ok:Bool) (zero:AV)
 deriving Inhabited
inductive PT where
 |alloc (iy:List AV)
 |box
 |aY (iy:List AV) (len size:Nat) (parts:List Nat)
 |eG (iy:List AV) (size bytes:Nat)
 |HH
 deriving Inhabited
inductive BU where
 |cP
 |bt (n:Nat)
 |lookup (ok:Bool) (zero:AV)
 |toStr
 |HC
 |entry
 deriving Inhabited
inductive wW where
 |store (n:Nat)
 |append (size bytes:Nat)
 |xH
 |copy (size:Nat)
 |clear (iy:List AV)
 |ins
 |z4
 |range
 |next
 |HF
 deriving Inhabited
inductive bx where
 |t (i:Nat)
 |c (v:AV)
 deriving Inhabited
inductive fG where
 |p (o:pQ)
 |a (o:PT)
 |r (o:BU)
 |e (o:wW)
 |call
 |invoke (name:String)
 |panic
 |bad
 deriving Inhabited
structure bp where
 dst:Option Nat
 guard:Option (Nat×Bool)
 op:fG
 args:List bx
 deriving Inhabited
inductive AC where
 |skip
 |ops (l:List bp)
 |bI (l:List bp) (win:List (List Nat))
 |seq (a b:AC)
 |cond (c:bx) (a b:AC)
 |block (id:Nat) (c:AC)
 |loop (c:AC)
 |rangeFunc (f:bx) (ps:List Nat) (a b:AC)
 |exit (id:Nat)
 |ret
 |bad
 deriving Inhabited
inductive AX where
 |normal
 |exit (id:Nat)
 |ret
 |panic (v:AV)
 deriving Inhabited
inductive bP where
 |cells (vs:List AV) (wr:Bool) (es:Nat)
 |map (es:List (AV×AV)) (bs:List Nat) (c:Nat)
 |iter (m since:Nat) (seen:List Nat) (last:Nat)
 |loop (st:Nat) (cw:Option AX) (e:Tr AV) (ps:List Nat) (a b:AC)
 |defers
 deriving Inhabited
structure Heap where
 next:Nat
 m:Tr bP
namespace Heap
def get(h:Heap)(b:Nat):Option bP:=h.m.get b
def new(h:Heap)(x:bP):Heap:=⟨h.next+1,h.m.set h.next x⟩
def set(h:Heap)(b:Nat)(x:bP):Heap:=⟨h.next,h.m.set b x⟩
def del(h:Heap)(b:Nat):Heap:=⟨h.next,h.m.del b⟩
def row(h:Heap)(b:Nat):Option (List AV):=
 match h.get b with
 |some (.cells vs _ _)=>some vs
 |_=>none
def cP(h:Heap)(b o:Nat):Option AV:=
 match h.row b with
 |some vs=>vs[o]?
 |none=>none
def bt(h:Heap)(b o n:Nat):Option (List AV):=
 match h.row b with
 |some vs=>cond (Nat.ble (o+n) vs.length) (some ((vs.drop o).take n)) none
 |none=>none
def splice{α:Type}:List α→Nat→List α→List α
 |vs,0,[]=>vs
 |[],_,_=>[]
 |_::vs,0,x::xs=>x::splice vs 0 xs
 |v::vs,o+1,xs=>v::splice vs o xs
def cZ(h:Heap)(b o:Nat)(xs:List AV):Option Heap:=
 match h.get b with
 |some (.cells vs true es)=>cond (Nat.ble (o+xs.length) vs.length&&bz xs) (some (h.set b (.cells (splice vs o xs) true es))) none
 |_=>none
end Heap
inductive qv where
 |tmp (t:Nat)
 |cell (a:Nat) (n:Nat) (agg:Bool)
 deriving Inhabited
structure aj where
 ntmps:Nat
 results:List qv
 body:AC
 deriving Inhabited
abbrev Env:=Tr AV
def Env.get(e:Env)(i:Nat):AV:=(Tr.get e i).getD .undef
def Env.put(e:Env)(d:Option Nat)(v:AV):Env:=
 match d with
 |some d=>Tr.set e d v
 |none=>e
def Env.ev(e:Env):bx→AV
 |.t i=>e.get i
 |.c v=>v
def Env.args:List AV→Nat→Env→Env
 |[],_,e=>e
 |v::vs,i,e=>Env.args vs (i+1) (Tr.set e i v)
def Tr.full{α:Type}:Nat→Tr α
 |0=>.nil
 |d+1=>.node (Tr.full d) none (Tr.full d)
def Env.start(n:Nat)(args:List AV):Env:=Env.args args 0 (Tr.full (Nat.log2 n+1))
def vk(n:Nat)(d:Option Nat):Bool:=
 match d with
 |some d=>Nat.ble (d+1) n
 |none=>true
def cY(n:Nat):List bp→Bool
 |[]=>true
 |i::l=>vk n i.dst&&cY n l
def oJ(n:Nat):List Nat→Bool
 |[]=>true
 |t::l=>Nat.ble (t+1) n&&oJ n l
def codeOk(n:Nat):AC→Bool
 |.ops l=>cY n l
 |.bI l _=>cY n l
 |.seq a b=>codeOk n a&&codeOk n b
 |.cond _ a b=>codeOk n a&&codeOk n b
 |.block _ c=>codeOk n c
 |.loop c=>codeOk n c
 |.rangeFunc _ ps a b=>oJ n ps&&codeOk n a&&codeOk n b
 |_=>true
def aU:AC→Bool
 |.seq a b=>aU a&&aU b
 |.cond _ a b=>aU a&&aU b
 |.block _ c=>aU c
 |.loop c=>aU c
 |.rangeFunc _ _ _ _=>false
 |_=>true
def part(cs:List AV)(off n:Nat)(agg:Bool):Option AV:=
 cond agg (cond (Nat.ble (off+n) cs.length) (some (.agg ((cs.drop off).take n))) none) cs[off]?
def qT(op:BinOp)(k:IntKind)(x y:Int):Option AV:=
 match op with
 |.add=>some (.int k (k.wrap (x+y)))
 |.sub=>some (.int k (k.wrap (x-y)))
 |.mul=>some (.int k (k.wrap (x*y)))
 |.quo=>cond (decide (y=0)) none (some (.int k (k.wrap (x.tdiv y))))
 |.rem=>cond (decide (y=0)) none (some (.int k (x.tmod y)))
 |.and=>some (.int k (k.wrap (BitVec.ofInt k.bits x&&&BitVec.ofInt k.bits y).toNat))
 |.or=>some (.int k (k.wrap (BitVec.ofInt k.bits x|||BitVec.ofInt k.bits y).toNat))
 |.xor=>some (.int k (k.wrap (BitVec.ofInt k.bits x^^^BitVec.ofInt k.bits y).toNat))
 |.andNot=>some (.int k (k.wrap (BitVec.ofInt k.bits x&&&~~~BitVec.ofInt k.bits y).toNat))
 |.eql=>some (.bool (x==y))
 |.neq=>some (.bool (x !=y))
 |.lss=>some (.bool (decide (x<y)))
 |.leq=>some (.bool (decide (x≤y)))
 |.gtr=>some (.bool (decide (x>y)))
 |.geq=>some (.bool (decide (x≥y)))
 |_=>none
def mM(op:BinOp)(k:IntKind)(x y:Int):Option AV:=
 cond (decide (y<0)) none
  (match op with
  |.shl=>some (.int k (k.wrap (x*2^(min y.toNat k.bits))))
  |.shr=>some (.int k (x.fdiv (2^(min y.toNat k.bits))))
  |_=>none)
def yY(op:BinOp)(x y:List UInt8):Option AV:=
 match op with
 |.add=>cond (Nat.ble (x.length+y.length) 9223372036854775807) (some (.str (x++y))) none
 |.eql=>some (.bool ((x==y)))
 |.neq=>some (.bool (!(x==y)))
 |.lss=>some (.bool (Go.Op.bytesLess x y))
 |.leq=>some (.bool (Go.Op.bytesLess x y||(x==y)))
 |.gtr=>some (.bool (!(Go.Op.bytesLess x y||(x==y))))
 |.geq=>some (.bool (!Go.Op.bytesLess x y))
 |_=>none
def jL:BinOp→Bool
 |.shl|.shr=>true
 |_=>false
def xe(op:BinOp)(x y:AV):Option AV:=
 match x,y with
 |.int k a,.int k' b=>cond (jL op) (mM op k a b) (cond (decide (k=k')) (qT op k a b) none)
 |.str a,.str b=>yY op a b
 |_,_=>none
def fI(x y:AV):Option Bool:=
 match x,y with
 |.int k a,.int k' b=>cond (decide (k=k')) (some (a==b)) none
 |_,_=>none
def tW(k:Nat)(x y:AV):Option Bool:=
 match k,x,y with
 |0,.int k a,.int k' b=>cond (decide (k=k')) (some (a==b)) none
 |1,.bool a,.bool b=>some (a==b)
 |2,.str a,.str b=>some (a==b)
 |_,_,_=>none
def fZ:List Nat→List AV→List AV→Option Bool
 |[],_,_=>some true
 |k::ks,x::xs,y::ys=>match tW k x y with
  |some true=>fZ ks xs ys
  |some false=>some false
  |none=>none
 |_,_,_=>none
def BW(k:FO)(x y:AV):Option Bool:=
 match k,x,y with
 |.cells ks,.agg xs,.agg ys=>fZ ks xs ys
 |.bool,.bool a,.bool b=>some (a==b)
 |.dF,.bJ,.bJ=>some true
 |.dF,.ptr _ _,.bJ=>some false
 |.dF,.bJ,.ptr _ _=>some false
 |.iW,.az,.az=>some true
 |.iW,.sl _ _ _ _ _,.az=>some false
 |.iW,.az,.sl _ _ _ _ _=>some false
 |.iW,.fE _,.az=>some false
 |.iW,.az,.fE _=>some false
 |.iW,.rest _ _ _,.az=>some false
 |.iW,.az,.rest _ _ _=>some false
 |.zv,.jg,.jg=>some true
 |.zv,.map _,.jg=>some false
 |.zv,.jg,.map _=>some false
 |.ym,.iZ,.iZ=>some true
 |.ym,.func _ _ _,.iZ=>some false
 |.ym,.iZ,.func _ _ _=>some false
 |.ym,.yield _,.iZ=>some false
 |.ym,.iZ,.yield _=>some false
 |.iface,.ja,.ja=>some true
 |.iface,.ja,.iface _ _=>some false
 |.iface,.iface _ _,.ja=>some false
 |_,_,_=>none
def fill:List AV→List (Nat×Nat)→List AV→Option (List AV)
 |cs,[],[]=>some cs
 |cs,(o,n)::ps,v::vs=>
  cond (Nat.beq v.cells.length n&&Nat.ble (o+n) cs.length) (fill (Heap.splice cs o v.cells) ps vs) none
 |_,_,_=>none
def asNat:AV→Option Nat
 |.int _ n=>match n with
  |.ofNat m=>some m
  |.negSucc _=>none
 |_=>none
def bounds(len cap:Nat)(lo hi mx:Bool)(args:List AV):Option (Nat×Nat×Nat):=
 let next (f:Bool) (d:Nat) (l:List AV):Option (Nat×List AV):=
  match f,l with
  |false,l=>some (d,l)
  |true,v::l=>(asNat v).map fun n=>(n,l)
  |true,[]=>none
 match next lo 0 args with
 |none=>none
 |some (l,r)=>match next hi len r with
  |none=>none
  |some (h,r)=>match next mx cap r with
   |none=>none
   |some (m,_)=>cond (Nat.ble l h&&Nat.ble h m&&Nat.ble m cap) (some (l,h,m)) none
def max2(x y:AV):Option AV:=
 match x,y with
 |.int k a,.int _ b=>some (.int k (cond (decide (b>a)) b a))
 |_,_=>none
def min2(x y:AV):Option AV:=
 match x,y with
 |.int k a,.int _ b=>some (.int k (cond (decide (b<a)) b a))
 |_,_=>none
def kq(f:AV→AV→Option AV):AV→List AV→Option AV
 |x,[]=>some x
 |x,y::r=>match f x y with
  |some z=>kq f z r
  |none=>none
def pI(o:pQ)(args:List AV):Option AV:=
 match o,args with
 |.yh,[x]=>some x
 |.pick,[.bool c,a,b]=>some (cond c a b)
 |.bin op,[x,y]=>xe op x y
 |.eq k,[x,y]=>(BW k x y).map .bool
 |.neq k,[x,y]=>(BW k x y).map fun b=>.bool !b
 |.not,[.bool b]=>some (.bool !b)
 |.neg,[.int k n]=>some (.int k (k.wrap (0-n)))
 |.Ef,[.str s]=>some (.str s)
 |.conv k,[.int _ n]=>some (.int k (k.wrap n))
 |.field off n g,[.agg cs]=>part cs off n g
 |.ext i,[.dO vs]=>vs[i]?
 |.o7,[.ptr b o]=>some (.ptr b o)
 |.vo off,[.ptr b o]=>some (.ptr b (o+off))
 |.aB size,[.sl b o len _ _,i]=>match asNat i with
  |some i=>cond (Nat.ble (i+1) len) (some (.ptr b (o+i*size))) none
  |none=>none
 |.jD size len,[.ptr b o,i]=>match asNat i with
  |some i=>cond (Nat.ble (i+1) len) (some (.ptr b (o+i*size))) none
  |none=>none
 |.Ba size len g,[.agg cs,i]=>match asNat i with
  |some i=>cond (Nat.ble (i+1) len) (part cs (i*size) size g) none
  |none=>none
 |.CH,[.str s,i]=>match asNat i with
  |some i=>(s[i]?).map fun b=>.int .u8 b.toNat
  |none=>none
 |.build iy parts,args=>(fill iy parts args).map .agg
 |.p8 t,[x]=>some (.iface t x)
 |.ec fn n,args=>some (.func fn (args.take n) (args.drop n))
 |.aV,[.sl _ _ len _ _]=>some (.int .i64 len)
 |.aV,[.az]=>some (.int .i64 0)
 |.aV,[.fE _]=>some (.int .i64 0)
 |.aV,[.rest _ _ _]=>some (.int .i64 0)
 |.lC,[.str s]=>some (.int .i64 s.length)
 |.E2 n,_=>some (.int .i64 n)
 |.mx,x::r=>kq max2 x r
 |.mn,x::r=>kq min2 x r
 |.slice size lo hi m,.sl b o len cap jv::r=>match bounds len cap lo hi m r with
  |some (l,h,mm)=>cond (Nat.beq mm l&&Nat.beq cap mm&&(jv&&!m&&!Nat.beq l 0)) (some (.rest b o (l*size))) (some (.sl b (o+cond (Nat.beq mm l) 0 (l*size)) (h-l) (mm-l) (cond m false jv)))
  |none=>none
 |.slice _ lo hi m,.az::r=>match bounds 0 0 lo hi m r with
  |some _=>some .az
  |none=>none
 |.slice _ lo hi m,.fE a::r=>match bounds 0 0 lo hi m r with
  |some _=>some (.fE a)
  |none=>none
 |.slice _ lo hi m,.rest b o k::r=>match bounds 0 0 lo hi m r with
  |some _=>cond m none (some (.rest b o k))
  |none=>none
 |.gN lo hi,.str s::r=>match bounds s.length s.length lo hi false r with
  |some (l,h,_)=>some (.str ((s.take h).drop l))
  |none=>none
 |.iL size len lo hi m,.ptr b o::r=>match bounds len len lo hi m r with
  |some (l,h,mm)=>some (.sl b (o+cond (Nat.beq mm l) 0 (l*size)) (h-l) (mm-l) false)
  |none=>none
 |.nZ t ok zero,[x]=>match x with
  |.iface u v=>cond (Nat.beq u t) (some (cond ok (.dO [v,.bool true]) v)) (cond ok (some (.dO [zero,.bool false])) none)
  |.ja=>cond ok (some (.dO [zero,.bool false])) none
  |_=>none
 |_,_=>none
def dN(iy:List AV):Nat→List AV
 |0=>[]
 |n+1=>iy++dN iy n
def aI(o:PT)(args:List AV):Option (bP×(Nat→AV)):=
 match o,args with
 |.alloc iy,[]=>some (.cells iy true 0,fun b=>.ptr b 0)
 |.box,[v]=>some (.cells v.cells true 0,fun b=>.ptr b 0)
 |.aY iy len size parts,vs=>match fill (dN iy len) (parts.map fun i=>(i*size,size)) vs with
  |some cs=>some (.cells cs true 0,fun b=>.sl b 0 len len false)
  |none=>none
 |.eG iy _ bytes,[l,c]=>match asNat l,asNat c with
  |some l,some c=>cond (Nat.ble l c&&Nat.ble (bytes*c) 140737488355328&&Nat.ble c 9223372036854775807) (some (.cells (dN iy c) true 0,fun b=>.sl b 0 l c false)) none
  |_,_=>none
 |.HH,[]=>some (.map [] [] 0,fun b=>.map b)
 |_,_=>none
def findKey(k:AV):List (AV×AV)→Option (Option AV)
 |[]=>some none
 |(x,v)::r=>match fI k x with
  |some true=>some (some v)
  |some false=>findKey k r
  |none=>none
def putKey(k v:AV):List (AV×AV)→List (AV×AV)
 |[]=>[(k,v)]
 |(x,u)::r=>match fI k x with
  |some true=>(k,v)::r
  |_=>(x,u)::putKey k v r
def cI:List AV→Option (List UInt8)
 |[]=>some []
 |.int .u8 n::r=>(cI r).map fun l=>UInt8.ofNat n.toNat::l
 |_=>none
def oh(r:Option AV)(bs:List Nat)(c:Nat):List Nat:=match r with
 |some _=>bs
 |none=>bs++[c]
def vg(r:Option AV)(c:Nat):Nat:=match r with
 |some _=>c
 |none=>c+1
def delKey(k:AV):List (AV×AV)→List (AV×AV)
 |[]=>[]
 |(x,u)::r=>match fI k x with
  |some true=>r
  |_=>(x,u)::delKey k r
def lY(k:AV):List (AV×AV)→List Nat→List Nat
 |(x,_)::r,b::bs=>match fI k x with
  |some true=>bs
  |_=>b::lY k r bs
 |_,bs=>bs
def pW(st:Nat):List Nat→List (AV×AV)→Option AV
 |b::bs,(k,v)::es=>cond (Nat.beq b st) (some (.dO [k,v])) (pW st bs es)
 |_,_=>none
def tu(b:Nat):List Nat→Bool
 |[]=>false
 |c::l=>cond (Nat.beq c b) true (tu b l)
def ou(seen:List Nat):List Nat→List Nat
 |[]=>[]
 |b::bs=>cond (tu b seen) (ou seen bs) (b::ou seen bs)
def Ak(last:Nat):List Nat→Bool
 |[]=>false
 |b::bs=>cond (Nat.ble (b+1) last) true (Ak last bs)
def oY(seen:List Nat)(last:Nat)(bs:List Nat):Bool:=seen.isEmpty||bs.isEmpty||Ak last bs
def rI(o:BU)(args:List AV)(h:Heap):Option AV:=
 match o,args with
 |.cP,[.ptr b o]=>h.cP b o
 |.bt n,[.ptr b o]=>(h.bt b o n).map .agg
 |.lookup ok zero,[.map b,k]=>match h.get b with
  |some (.map es _ _)=>match findKey k es with
   |some (some v)=>some (cond ok (.dO [v,.bool true]) v)
   |some none=>some (cond ok (.dO [zero,.bool false]) zero)
   |none=>none
  |_=>none
 |.lookup ok zero,[.jg,_]=>some (cond ok (.dO [zero,.bool false]) zero)
 |.toStr,[.az]=>some (.str [])
 |.toStr,[.fE _]=>some (.str [])
 |.toStr,[.rest _ _ _]=>some (.str [])
 |.toStr,[.sl b o len _ _]=>match h.bt b o len with
  |some cs=>(cI cs).map .str
  |none=>none
 |.HC,[.jg]=>some (.int .i64 0)
 |.HC,[.map b]=>match h.get b with
  |some (.map es _ _)=>some (.int .i64 es.length)
  |_=>none
 |.entry,[.ptr it 0]=>match h.get it with
  |some (.iter m _ seen last)=>match seen.getLast?,h.get m with
   |some st,some (.map es bs c)=>cond (Nat.beq c last) (pW st bs es) none
   |_,_=>none
  |_=>none
 |_,_=>none
def aP(size:Nat)(h:Heap):AV→Option (Nat×List AV)
 |.az=>some (0,[])
 |.fE _=>some (0,[])
 |.rest _ _ _=>some (0,[])
 |.sl b o len _ _=>(h.bt b o (len*size)).map fun cs=>(len,cs)
 |.str s=>cond (Nat.beq size 1) (some (s.length,s.map fun b=>.int .u8 b.toNat)) none
 |_=>none
def eI(o:wW)(args:List AV)(h:Heap):Option (AV×Heap):=
 match o,args with
 |.store n,[.ptr b o,v]=>cond (Nat.beq v.cells.length n) ((h.cZ b o v.cells).map fun h=>(.undef,h)) none
 |.append size bytes,[s,x]=>match aP size h x with
  |none=>none
  |some (n,new)=>cond (bz new) (match s with
   |.az=>cond (Nat.beq n 0) (some (.az,h))
     (cond (Nat.ble (n*bytes) 140737488355328&&Nat.ble n 9223372036854775807) (some (.sl h.next 0 n n true,h.new (.cells new true size))) none)
   |.sl b o len cap jv=>cond (Nat.beq n 0&&Nat.ble len cap) (some (.sl b o len cap jv,h)) (cond (Nat.ble (len+n) cap)
     ((h.cZ b (o+len*size) new).map fun h=>(.sl b o (len+n) cap jv,h))
     (cond (Nat.ble ((len+n)*bytes) 140737488355328&&Nat.ble (len+n) 9223372036854775807)
      (match h.get b,h.bt b o (len*size) with
      |some (.cells vs wr es),some old=>cond jv
        (cond (wr&&Nat.beq vs.length (o+len*size)&&Nat.beq cap len&&Nat.beq es size) (some (.sl h.next 0 (len+n) (len+n) true,(h.del b).new (.cells (old++new) true size))) none)
        (some (.sl h.next 0 (len+n) (len+n) true,h.new (.cells (old++new) true size)))
      |_,_=>none) none))
   |.fE a=>cond (Nat.beq n 0) (some (.fE a,h))
     (cond (Nat.ble (n*bytes) 140737488355328&&Nat.ble n 9223372036854775807) (some (.sl h.next 0 n n true,h.new (.cells new true size))) none)
   |_=>none) none
 |.copy size,[d,x]=>match d,aP size h x with
  |.az,some _=>some (.int .i64 0,h)
  |.fE _,some _=>some (.int .i64 0,h)
  |.sl b o len _ _,some (n,new)=>(h.cZ b o (new.take (min n len*size))).map fun h=>(.int .i64 (min n len),h)
  |_,_=>none
 |.clear iy,[d]=>match d with
  |.az=>some (.undef,h)
  |.sl b o len _ _=>(h.cZ b o (dN iy len)).map fun h=>(.undef,h)
  |_=>none
 |.ins,[.map b,k,v]=>match h.get b with
  |some (.map es bs c)=>match findKey k es with
   |some r=>some (.undef,h.set b (.map (putKey k v es) (oh r bs c) (vg r c)))
   |none=>none
  |_=>none
 |.range,[.map b]=>match h.get b with
  |some (.map _ _ c)=>some (.ptr h.next 0,h.new (.iter b c [] c))
  |_=>none
 |.next,[.ptr it 0]=>match h.get it with
  |some (.iter m _ seen last)=>match h.get m with
   |some (.map _ bs _)=>cond (oY seen last bs&&(ou seen bs).isEmpty) (some (.dO [.bool false],h.del it)) none
   |_=>none
  |_=>none
 |.HF,[.map b,k]=>match h.get b with
  |some (.map es bs c)=>match findKey k es with
   |some _=>some (.dO [],h.set b (.map (delKey k es) (lY k es bs) c))
   |none=>none
  |_=>none
 |.z4,[.str s]=>some (.sl h.next 0 s.length s.length true,h.new (.cells (s.map fun b=>.int .u8 b.toNat) true 1))
 |_,_=>none
def Aj(n:Nat):List Nat→Bool
 |[]=>true
 |b::bs=>cond (Nat.ble (b+1) n) (Aj n bs) false
def sA(h:Heap)(it m since:Nat)(seen:List Nat)(c:Nat):List Nat→List (AV×AV)→List (AV×Heap)
 |b::bs,(k,v)::es=>cond (tu b seen) (sA h it m since seen c bs es) ((.dO [.bool true,k,v],h.set it (.iter m since (seen++[b]) c))::sA h it m since seen c bs es)
 |_,_=>[]
def o5(args:List AV)(h:Heap):Option (List (AV×Heap)):=
 match args with
 |[.ptr it 0]=>match h.get it with
  |some (.iter m since seen last)=>match h.get m with
   |some (.map es bs c)=>cond (oY seen last bs&&Aj since (ou seen bs)&&!(ou seen bs).isEmpty) (some (sA h it m since seen c bs es)) none
   |_=>none
  |_=>none
 |_=>none
def eK(o:wW)(args:List AV)(h:Heap):Option (AV×Heap):=
 match o,args with
 |.append size bytes,[.sl b o len cap true,x]=>match aP size h x with
  |none=>none
  |some (n,new)=>match h.get b,h.bt b o (len*size) with
   |some (.cells vs true es),some old=>
    cond (bz new&&(!Nat.beq n 0&&Nat.ble ((len+n)*bytes) 140737488355328&&Nat.ble (len+n) 9223372036854775807)&&(Nat.beq vs.length (o+len*size)&&Nat.beq cap len&&Nat.beq es size))
     (some (.sl h.next 0 (len+n) (len+n) true,(h.set b (.cells vs false es)).new (.cells (old++new) false size))) none
   |_,_=>none
 |_,_=>none
mutual
def jl:Nat→Value→Option AV
 |0,_=>none
 |f+1,v=>match v with
  |.bool b=>some (.bool b)
  |.int k n=>some (.int k n)
  |.string s=>some (.str s.data.toList)
  |.pointer none=>some .bJ
  |.slice none 0 0=>some .az
  |.map none=>some .jg
  |.nilFunc=>some .iZ
  |.nilIface=>some .ja
  |.func (.func g) a c=>match og f a.toList,og f c.toList with
   |some a,some c=>some (.func (.func g) a c)
   |_,_=>none
  |.iface t v=>(jl f v).map (.iface t)
  |.agg cs=>(og f cs.toList).map .agg
  |.tuple vs=>(og f vs.toList).map .dO
  |_=>none
def og:Nat→List Value→Option (List AV)
 |0,_=>none
 |_+1,[]=>some []
 |f+1,v::vs=>match jl f v,og f vs with
  |some x,some xs=>some (x::xs)
  |_,_=>none
end
def fuel:Nat:=100000
def dr:Operand→Option bx
 |.tmp t=>some (.t t)
 |.const v=>(jl fuel v).map .c
 |.func f=>some (.c (.func (.func f) [] []))
 |.global _=>none
def ck:List Operand→Option (List bx)
 |[]=>some []
 |x::xs=>match dr x,ck xs with
  |some r,some rs=>some (r::rs)
  |_,_=>none
variable (P:Program)
def eC(t:TypeId):Option Nat:=(P.info? t).map (·.size)
def qV(t:TypeId):Option Nat:=(P.info? t).map (·.bytes)
def mg(t:TypeId):Option AV:=match P.info? t with
 |some i=>i.zero.bind (jl fuel)
 |none=>none
def lz(t:TypeId):Option Bool:=(P.underlying t).map fun
 |.struct _|.array _ _=>true
 |_=>false
def l6:Nat→List Field→Option (List Nat)
 |_,[]=>some []
 |i,f::fs=>cond (f.name != "_" &&Nat.beq f.offset i) (match P.underlying f.type with
  |some (.int _)=>(l6 (i+1) fs).map (0::·)
  |some .bool=>(l6 (i+1) fs).map (1::·)
  |some .string=>(l6 (i+1) fs).map (2::·)
  |_=>none) none
def oQ(t:TypeId):Option FO:=
 match P.underlying t with
 |some (.struct fs)=>cond (P.stoodInHeld t||P.eqGuardType P.depth t) none ((l6 P 0 fs.toList).map .cells)
 |some .bool=>some .bool
 |some (.pointer _)=>some .dF
 |some (.slice _)=>some .iW
 |some (.map _ _)=>some .zv
 |some (.func _ _ _)=>some .ym
 |some (.interface _)=>some .iface
 |_=>none
def eU:Operand→Bool
 |.const _=>true
 |_=>false
def jU(t:TypeId):Bool:=match P.underlying t with
 |some (.interface _)=>true
 |_=>false
def oX:TypeDesc→Bool
 |.slice _|.string=>true
 |_=>false
def nE(fs:Array Field)(i:Nat):Option (Nat×Nat):=
 match fs[i]? with
 |some f=>(eC P f.type).map fun n=>(f.offset,n)
 |none=>none
def partsOf(ps:List (Nat×Operand))(place:Nat→Option (Nat×Nat)):Option (List (Nat×Nat)×List bx):=
 match ps with
 |[]=>some ([],[])
 |(i,x)::r=>match place i,dr x,partsOf r place with
  |some p,some a,some (ps,as)=>some (p::ps,a::as)
  |_,_,_=>none
def qe(xs:List (Option Operand)):Option (List bx):=ck (xs.filterMap id)
def one(op:fG)(xs:List Operand):Option (fG×List bx):=(ck xs).map fun rs=>(op,rs)
def aD(o:Op):Option (fG×List bx):=
 match o with
 |.move x|.assign x=>one (.p .yh) [x]
 |.pick c a b=>one (.p .pick) [c,a,b]
 |.alloc t=>(mg P t).bind fun z=>one (.a (.alloc z.cells)) []
 |.box _ x=>one (.a .box) [x]
 |.build t ps=>match mg P t,P.underlying t with
  |some z,some (.struct fs)=>if !(fs.all fun f=>(eC P f.type).isSome) then none else(partsOf ps.toList (nE P fs)).map fun(l,as)=>(.p (.build z.cells l),as)
  |some z,some (.array _ e)=>match eC P e with
   |some n=>(partsOf ps.toList fun i=>some (i*n,n)).map fun(l,as)=>(.p (.build z.cells l),as)
   |none=>none
  |_,_=>none
 |.buildSlice t len ps=>match P.underlying t with
  |some (.slice e)=>match eC P e,mg P e with
   |some n,some z=>if len*n>2^24||z.cells.length !=n then none else(partsOf ps.toList fun i=>some (i,0)).map fun(l,as)=>(.a (.aY z.cells len n (l.map (·.1))),as)
   |_,_=>none
  |_=>none
 |.load t a=>match lz P t,eC P t with
  |some true,some n=>one (.r (.bt n)) [a]
  |some false,some _=>one (.r .cP) [a]
  |_,_=>none
 |.store t a x=>(eC P t).bind fun n=>one (.e (.store n)) [a,x]
 |.nilCheck x=>one (.p .o7) [x]
 |.binOp op t x y _=>match P.underlying t with
  |some (.int _)|some .string=>one (.p (.bin op)) [x,y]
  |_=>match op with
   |.eql=>if eU x||eU y||!jU P t then(oQ P t).bind fun k=>one (.p (.eq k)) [x,y] else none
   |.neq=>if eU x||eU y||!jU P t then(oQ P t).bind fun k=>one (.p (.neq k)) [x,y] else none
   |_=>none
 |.unOp .not _ x=>one (.p .not) [x]
 |.unOp .neg _ x=>one (.p .neg) [x]
 |.convert src dst x=>match P.underlying src,P.underlying dst with
  |some _,some (.int k)=>one (.p (.conv k)) [x]
  |some .string,some .string=>one (.p .Ef) [x]
  |some .string,some (.slice e)=>match P.underlying e with
   |some (.int .u8)=>one .bad [x]
   |_=>none
  |some (.slice e),some .string=>match P.underlying e with
   |some (.int .u8)=>one (.r .toStr) [x]
   |_=>none
  |_,_=>none
 |.makeInterface t x=>match P.underlying t with
  |some (.interface _)=>none
  |some _=>one (.p (.p8 t)) [x]
  |none=>none
 |.makeFunc fn first aO=>match fn with
  |.yield _=>none
  |fn=>one (.p (.ec fn first.size)) (first.toList++aO.toList)
 |.makeMap _ none=>one (.a .HH) []
 |.makeSlice t l c=>match P.underlying t with
  |some (.slice e)=>match eC P e,qV P e,mg P e with
   |some n,some b,some z=>if z.cells.length !=n then none else one (.a (.eG z.cells n b)) [l,c]
   |_,_,_=>none
  |_=>none
 |.slice t x lo hi mx=>if mx.isSome&&hi.isNone then none else match P.underlying t with
  |some (.slice e)=>match eC P e with
   |some n=>(qe [some x,lo,hi,mx]).map fun as=>(.p (.slice n lo.isSome hi.isSome mx.isSome),as)
   |none=>none
  |some .string=>if mx.isSome then none else(qe [some x,lo,hi]).map fun as=>(.p (.gN lo.isSome hi.isSome),as)
  |some (.array len e)=>match eC P e with
   |some n=>(qe [some x,lo,hi,mx]).map fun as=>(.p (.iL n len lo.isSome hi.isSome mx.isSome),as)
   |none=>none
  |_=>none
 |.fieldAddr t x i=>match P.underlying t with
  |some (.struct fs)=>match fs[i]? with
   |some f=>match eC P f.type with
    |some (_+1)=>one (.p (.vo f.offset)) [x]
    |_=>none
   |none=>none
  |_=>none
 |.field t x i=>match P.underlying t with
  |some (.struct fs)=>match fs[i]? with
   |some f=>match lz P f.type,eC P f.type with
    |some g,some n=>one (.p (.field f.offset n g)) [x]
    |_,_=>none
   |none=>none
  |_=>none
 |.indexAddr t x i=>match P.underlying t with
  |some (.slice e)=>(eC P e).bind fun n=>one (.p (.aB n)) [x,i]
  |some (.array len e)=>(eC P e).bind fun n=>one (.p (.jD n len)) [x,i]
  |_=>none
 |.index t x i=>match P.underlying t with
  |some .string=>one (.p .CH) [x,i]
  |some (.array len e)=>match lz P e,eC P e with
   |some g,some n=>one (.p (.Ba n len g)) [x,i]
   |_,_=>none
  |_=>none
 |.lookup t m k ok=>match P.underlying t with
  |some (.map kt e)=>match P.underlying kt with
   |some (.int _)=>(mg P e).bind fun z=>one (.r (.lookup ok z)) [m,k]
   |some .string|some .bool=>one .bad [m,k]
   |_=>none
  |_=>none
 |.mapUpdate t m k v|.insert t m k v=>match P.underlying t with
  |some (.map kt _)=>match P.underlying kt with
   |some (.int _)=>one (.e .ins) [m,k,v]
   |some .string|some .bool=>one .bad [m,k,v]
   |_=>none
  |_=>none
 |.range t x=>match P.underlying t with
  |some (.map _ _)=>one (.e .range) [x]
  |_=>none
 |.next it false=>one (.e .next) [it]
 |.entry it=>one (.r .entry) [it]
 |.extract x i=>one (.p (.ext i)) [x]
 |.panic x=>one .panic [x]
 |.typeAssert x xt t ok=>match P.underlying t,P.underlying xt with
  |some (.interface _),_=>none
  |some _,some _=>(mg P t).bind fun z=>one (.p (.nZ t ok z)) [x]
  |_,_=>none
 |.call c=>match c.callee with
  |.value f=>(ck (f::c.args.toList)).map fun rs=>(.call,rs)
  |.invoke r name=>(ck (r::c.args.toList)).map fun rs=>(.invoke name,rs)
  |.builtin b=>match b,c.args.toList,c.argTypes.toList with
   |.len,[x],[t]=>match P.underlying t with
    |some (.slice _)=>one (.p .aV) [x]
    |some .string=>one (.p .lC) [x]
    |some (.array n _)=>one (.p (.E2 n)) [x]
    |some (.map _ _)=>one .bad [x]
    |some (.pointer arr)=>match P.underlying arr with
     |some (.array n _)=>one (.p (.E2 n)) [x]
     |_=>none
    |_=>none
   |.max,x::xs,_=>one (.p .mx) (x::xs)
   |.min,x::xs,_=>one (.p .mn) (x::xs)
   |.append,[s,x],t::u::_=>match P.underlying t,P.underlying u with
    |some (.slice e),some d=>if !oX d then none else match eC P e,qV P e,mg P e with
     |some n,some b,some z=>if z.cells.length !=n then none else one (.e (.append n b)) [s,x]
     |_,_,_=>none
    |_,_=>none
   |.copy,[d,x],t::_=>match P.underlying t with
    |some (.slice e)=>(eC P e).bind fun n=>one (.e (.copy n)) [d,x]
    |_=>none
   |.clear,[d],[t]=>match P.underlying t with
    |some (.slice e)=>(mg P e).bind fun z=>one (.e (.clear z.cells)) [d]
    |some (.map _ _)=>one .bad [d]
    |_=>none
   |.delete,[m,k],t::_=>match P.underlying t with
    |some (.map kt _)=>match P.underlying kt with
     |some (.int _)=>one (.e .HF) [m,k]
     |_=>none
    |_=>none
   |_,_,_=>none
 |_=>none
def uC(o:Oper):List bx:=
 match o.guard,o.op with
 |none,.defer c=>match c.callee,c.args.toList with
  |.value f,[]=>match dr f with
   |some r=>[.c (.bool true),r,r,r]
   |none=>[]
  |_,_=>[]
 |none,.call c=>match c.callee with
  |.builtin .recover=>[.c (.bool false),.c (.bool false),.c (.bool false),.c (.bool false)]
  |_=>[]
 |_,_=>[]
def om(dst:Option Nat)(r:bx):bp:=⟨dst,none,.bad,[.c (.bool true),r,r,r]⟩
def v9(t:Nat):bp:=⟨some t,none,.bad,[.c (.bool false),.c (.bool false),.c (.bool false),.c (.bool false)]⟩
def bE(ops:Array Oper)(o:Oper):bp:=
 let g:Option (Option (Nat×Bool)):=match o.guard with
  |none=>some none
  |some (j,want)=>match(ops[j]?).bind (·.dst) with
   |some d=>some (some (d,want))
   |none=>none
 match g,aD P o.op with
 |some g,some (op,as)=>⟨o.dst,g,op,as⟩
 |_,_=>⟨o.dst,none,.bad,uC o⟩
def bS:fG→Bool
 |.e _|.call|.invoke _|.panic=>true
 |_=>false
def Hy:fG→Bool
 |.r _=>true
 |_=>false
def nv(ops:Array Oper):List Nat:=(Region.before ops).toList
def sY{α:Type}(f:Nat→α→Bool):Nat→List α→Bool
 |_,[]=>true
 |i,x::l=>cond (f i x) (sY f (i+1) l) false
def gG:List bx→List Nat
 |[]=>[]
 |.t i::r=>i::gG r
 |.c _::r=>gG r
def bp.reads(i:bp):List Nat:=(match i.guard with|some (d,_)=>[d]|none=>[])++gG i.args
def bp.names(i:bp):List Nat:=i.dst.toList++i.reads
def nu(x y:bp):Bool:=
 (match x.dst with|some d=>!(y.names.contains d)|none=>true)&&(match y.dst with|some d=>!(x.names.contains d)|none=>true)
def linked(y:bp):List bp→Bool
 |[]=>false
 |z::r=>(bS y.op&&bS z.op)||!(nu y z)||linked y r
def lB:List bp→Bool
 |[]=>true
 |[_]=>true
 |y::z::r=>linked y (z::r)&&lB (z::r)
def uL(bs:List Nat)(l:List bp):Bool:=
 sY (fun j y=>sY (fun i x=>decide (j≤i)||(bs.getD j 0).testBit i||(!(bS x.op&&bS y.op)&&nu x y)) 0 l) 0 l
def kA(bs:List Nat)(ops:List Oper):Bool:=
 sY (fun i o=>decide (bs.getD i 0<2^i)&&Nat.beq (bs.getD i 0) (o.after.toList.foldl (fun s e=>cond (Region.binds .any e) (s|||2^e.on|||bs.getD e.on 0) s) 0)) 0 ops
def ue(bs:List Nat)(EJ:List Nat)(i c:Nat):Bool:=
 EJ.all fun p=>(!(bs.getD i 0).testBit p||decide (p<c))&&(!(bs.getD p 0).testBit i||!decide (p<c))
def bZ(l:List bp):List Nat:=(List.range l.length).filter fun i=>match l[i]? with|some x=>bS x.op|none=>false
def oM(bs:List Nat)(l:List bp)(EJ:List Nat)(i:Nat):List Nat:=
 (0::EJ.map (· +1)).filter (ue bs EJ i)
def kj(bs:List Nat)(l:List bp)(EJ:List Nat)(i:Nat):List Nat:=
 match l[i]? with
 |some x=>cond (Hy x.op) (match oM bs l EJ i with
   |[_]=>[]
   |cs=>cs) []
 |none=>[]
def gC(ops:Array Oper)(draw:Bool):AC:=
 let l:=ops.toList.map (bE P ops)
 if !draw then .ops l else
 let bs:=nv ops
 if uL bs l&&kA bs ops.toList then .bI l ((List.range l.length).map (kj bs l (bZ l))) else .bad
def aE:Code→AC
 |.skip=>.skip
 |.region _ ops draw=>gC P ops draw
 |.seq a b=>.seq (aE a) (aE b)
 |.cond c a b=>match dr c with
  |some r=>.cond r (aE a) (aE b)
  |none=>.bad
 |.block id c=>.block id (aE c)
 |.loop c=>.loop (aE c)
 |.rangeFunc g ps a c=>match dr g with
  |some r=>.rangeFunc r ps.toList (aE a) (aE c)
  |none=>.bad
 |.scope c=>aE c
 |.label _=>.skip
 |.exit id=>.exit id
 |.ret=>.ret
 |_=>.bad
def gV:List ResultVar→Option (List qv)
 |[]=>some []
 |.tmp t::r=>(gV r).map (.tmp t::·)
 |.cell a t::r=>match lz P t,eC P t,gV r with
  |some g,some n,some rs=>some (.cell a n g::rs)
  |_,_,_=>none
def ai(fn:Func):Option aj:=
 match fn.body,gV P fn.results.toList with
 |some c,some rs=>if(fn.name== "runtime.NumGoroutine")||!codeOk fn.ntmps (aE P c) then none else some ⟨fn.ntmps,rs,aE P c⟩
 |_,_=>none
end Ads
end Go.Proofs.YtmnolnoeibhjgaaGreat
