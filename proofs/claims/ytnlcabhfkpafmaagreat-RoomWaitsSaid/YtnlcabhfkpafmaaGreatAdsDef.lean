/-
  The abstract deterministic semantics 'Ads': values, heap, instructions, the compiling of the model's operations. No statement about the model stands here.
-/
import GoSem.Dispatch
set_option linter.unusedVariables false
namespace Go.Proofs.YtnlcabhfkpafmaaGreat
namespace Ads
inductive AV where
 |bool (b:Bool)
 |int (k:IntKind) (n:Int)
 |str (s:List UInt8)
 |ptr (b o:Nat)
 |bq
 |sl (b o len cap:Nat) (jS:Bool)
 |aH
 |fY (a:Addr)
 |map (b:Nat)
 |jJ
 |func (fn:Fn) (first aF:List AV)
 |jz
 |yield (b:Nat)
 |iface (t:Nat) (v:AV)
 |jI
 |agg (cs:List AV)
 |cD (vs:List AV)
 |fz (k:Nat) (l:List AV)
 |fp (cs:List AV) (o:Nat)
 |rest (b o k:Nat)
 deriving Inhabited
def AV.undef:AV:=.cD []
def AV.cells:AV→List AV
 |.agg cs=>cs
 |v=>[v]
def AV.flat:AV→Bool
 |.agg _|.cD _=>false
 |_=>true
def bz:List AV→Bool
 |[]=>true
 |v::vs=>cond v.flat (bz vs) false
inductive Tr(α:Type) where
 |nil
 |node (l:Tr α) (v:Option α) (r:Tr α)
namespace Tr
variable {α:Type}
def get:Tr α→Nat→Option α
 |.nil,_=>none
 |.node l v r,n=>cond (Nat.beq n 0) v (cond (Nat.beq (n%2) 1) (l.get (n/2)) (r.get (n/2-1)))
def left:Tr α→Tr α
 |.nil=>.nil
 |.node l _ _=>l
def right:Tr α→Tr α
 |.nil=>.nil
 |.node _ _ r=>r
def val:Tr α→Option α
 |.nil=>none
 |.node _ v _=>v
def put(x:Option α):Nat→Tr α→Nat→Tr α
 |0,t,_=>t
 |f+1,t,n=>cond (Nat.beq n 0) (.node t.left x t.right)
   (cond (Nat.beq (n%2) 1) (.node (put x f t.left (n/2)) t.val t.right) (.node t.left t.val (put x f t.right (n/2-1))))
def set(t:Tr α)(n:Nat)(x:α):Tr α:=put (some x) (n+1) t n
def del(t:Tr α)(n:Nat):Tr α:=put none (n+1) t n
end Tr
inductive HX where
 |bool
 |dh
 |mh
 |Aj
 |yZ
 |iface
 |cells (ks:List Nat)
 deriving Inhabited
inductive qk where
 |Ly
 |pick
 |bin (op:BinOp)
 |eq (k:HX)
 |neq (k:HX)
 |not
 |neg
 |conv(k:IntKind)
 |FA
 |field (off:Nat) (n:Nat) (agg:Bool)
 |ext (i:Nat)
 |pT
 |vO (off:Nat)
 |aG (size:Nat)
 |dR (size len:Nat)
 |GK (size len:Nat) (agg:Bool)
 |BO
 |build (iC:List AV) (parts:List (Nat×Nat))
 |vm (t:Nat)
 |jG (fn:Fn) (aaH:Nat)
 |bX
 |wz
 |GQ (n:Nat)
 |mx
 |mn
 |slice (size:Nat) (lo hi mx:Bool)
 |mw (lo hi:Bool)
 |mu (size len:Nat) (lo hi mx:Bool)
 |qK (t:Nat) (ok:Bool) (zero:AV)
 deriving Inhabited
inductive SK where
 |alloc (iC:List AV)
 |box
 |dA (iC:List AV) (len size:Nat) (parts:List Nat)
 |jH (iC:List AV) (size bytes:Nat)
 |Km
 deriving Inhabited
inductive Cy where
 |bY
 |bf (n:Nat)
 |lookup (ok:Bool) (zero:AV)
 |toStr
 |Kf
 |entry
 deriving Inhabited
inductive xB where
 |store (n:Nat)
 |append (size bytes:Nat)
 |yp
 |copy (size:Nat)
 |clear (iC:List AV)
 |ins
 |AD
 |range
 |next
 |Kj
 deriving Inhabited
inductive bE where
 |t (i:Nat)
 |c (v:AV)
 deriving Inhabited
inductive fZ where
 |p (o:qk)
 |a (o:SK)
 |r (o:Cy)
 |e (o:xB)
 |call
 |invoke (name:String)
 |panic
 |bad
 deriving Inhabited
structure bu where
 dst:Option Nat
 guard:Option (Nat×Bool)
 op:fZ
 args:List bE
 deriving Inhabited
inductive AC where
 |skip
 |ops (l:List bu)
 |cB (l:List bu) (win:List (List Nat))
 |seq (a b:AC)
 |cond (c:bE) (a b:AC)
 |block (id:Nat) (c:AC)
 |loop (c:AC)
 |rangeFunc (f:bE) (ps:List Nat) (a b:AC)
 |exit (id:Nat)
 |ret
 |bad
 deriving Inhabited
inductive AX where
 |normal
 |exit (id:Nat)
 |ret
 |panic (v:AV)
 deriving Inhabited
inductive ck where
 |cells (vs:List AV) (wr:Bool) (es:Nat)
 |map (es:List (AV×AV)) (bs:List Nat) (c:Nat)
 |iter (m since:Nat) (seen:List Nat) (last:Nat)
 |loop (st:Nat) (cE:Option AX) (e:Tr AV) (ps:List Nat) (a b:AC)
 |defers
 deriving Inhabited
structure Heap where
 next:Nat
 m:Tr ck
namespace Heap
def get(h:Heap)(b:Nat):Option ck:=h.m.get b
def new(h:Heap)(x:ck):Heap:=⟨h.next+1,h.m.set h.next x⟩
def set(h:Heap)(b:Nat)(x:ck):Heap:=⟨h.next,h.m.set b x⟩
def del(h:Heap)(b:Nat):Heap:=⟨h.next,h.m.del b⟩
def row(h:Heap)(b:Nat):Option (List AV):=
 match h.get b with
 |some (.cells vs _ _)=>some vs
 |_=>none
def bY(h:Heap)(b o:Nat):Option AV:=
 match h.row b with
 |some vs=>vs[o]?
 |none=>none
def bf(h:Heap)(b o n:Nat):Option (List AV):=
 match h.row b with
 |some vs=>cond (Nat.ble (o+n) vs.length) (some ((vs.drop o).take n)) none
 |none=>none
def splice{α:Type}:List α→Nat→List α→List α
 |vs,0,[]=>vs
 |[],_,_=>[]
 |_::vs,0,x::xs=>x::splice vs 0 xs
 |v::vs,o+1,xs=>v::splice vs o xs
def di(h:Heap)(b o:Nat)(xs:List AV):Option Heap:=
 match h.get b with
 |some (.cells vs true es)=>cond (Nat.ble (o+xs.length) vs.length&&bz xs) (some (h.set b (.cells (splice vs o xs) true es))) none
 |_=>none
end Heap
inductive rB where
 |tmp (t:Nat)
 |cell (a:Nat) (n:Nat) (agg:Bool)
 deriving Inhabited
structure aq where
 ntmps:Nat
 results:List rB
 body:AC
 deriving Inhabited
abbrev Env:=Tr AV
def Env.get(e:Env)(i:Nat):AV:=(Tr.get e i).getD .undef
def Env.put(e:Env)(d:Option Nat)(v:AV):Env:=
 match d with
 |some d=>Tr.set e d v
 |none=>e
def Env.ev(e:Env):bE→AV
 |.t i=>e.get i
 |.c v=>v
def Env.args:List AV→Nat→Env→Env
 |[],_,e=>e
 |v::vs,i,e=>Env.args vs (i+1) (Tr.set e i v)
def Tr.full{α:Type}:Nat→Tr α
 |0=>.nil
 |d+1=>.node (Tr.full d) none (Tr.full d)
def Env.start(n:Nat)(args:List AV):Env:=Env.args args 0 (Tr.full (Nat.log2 n+1))
def vK(n:Nat)(d:Option Nat):Bool:=
 match d with
 |some d=>Nat.ble (d+1) n
 |none=>true
def de(n:Nat):List bu→Bool
 |[]=>true
 |i::l=>vK n i.dst&&de n l
def oW(n:Nat):List Nat→Bool
 |[]=>true
 |t::l=>Nat.ble (t+1) n&&oW n l
def codeOk(n:Nat):AC→Bool
 |.ops l=>de n l
 |.cB l _=>de n l
 |.seq a b=>codeOk n a&&codeOk n b
 |.cond _ a b=>codeOk n a&&codeOk n b
 |.block _ c=>codeOk n c
 |.loop c=>codeOk n c
 |.rangeFunc _ ps a b=>oW n ps&&codeOk n a&&codeOk n b
 |_=>true
def aX:AC→Bool
 |.seq a b=>aX a&&aX b
 |.cond _ a b=>aX a&&aX b
 |.block _ c=>aX c
 |.loop c=>aX c
 |.rangeFunc _ _ _ _=>false
 |_=>true
def part(cs:List AV)(off n:Nat)(agg:Bool):Option AV:=
 cond agg (cond (Nat.ble (off+n) cs.length) (some (.agg ((cs.drop off).take n))) none) cs[off]?
def rG(op:BinOp)(k:IntKind)(x y:Int):Option AV:=
 match op with
 |.add=>some (.int k (k.wrap (x+y)))
 |.sub=>some (.int k (k.wrap (x-y)))
 |.mul=>some (.int k (k.wrap (x*y)))
 |.quo=>cond (decide (y=0)) none (some (.int k (k.wrap (x.tdiv y))))
 |.rem=>cond (decide (y=0)) none (some (.int k (x.tmod y)))
 |.and=>some (.int k (k.wrap (BitVec.ofInt k.bits x&&&BitVec.ofInt k.bits y).toNat))
 |.or=>some (.int k (k.wrap (BitVec.ofInt k.bits x|||BitVec.ofInt k.bits y).toNat))
 |.xor=>some (.int k (k.wrap (BitVec.ofInt k.bits x^^^BitVec.ofInt k.bits y).toNat))
 |.andNot=>some (.int k (k.wrap (BitVec.ofInt k.bits x&&&~~~BitVec.ofInt k.bits y).toNat))
 |.eql=>some (.bool (x==y))
 |.neq=>some (.bool (x !=y))
 |.lss=>some (.bool (decide (x<y)))
 |.leq=>some (.bool (decide (x≤y)))
 |.gtr=>some (.bool (decide (x>y)))
 |.geq=>some (.bool (decide (x≥y)))
 |_=>none
def nj(op:BinOp)(k:IntKind)(x y:Int):Option AV:=
 cond (decide (y<0)) none
  (match op with
  |.shl=>some (.int k (k.wrap (x*2^(min y.toNat k.bits))))
  |.shr=>some (.int k (x.fdiv (2^(min y.toNat k.bits))))
  |_=>none)
def zx(op:BinOp)(x y:List UInt8):Option AV:=
 match op with
 |.add=>cond (Nat.ble (x.length+y.length) 9223372036854775807) (some (.str (x++y))) none
 |.eql=>some (.bool ((x==y)))
 |.neq=>some (.bool (!(x==y)))
 |.lss=>some (.bool (Go.Op.bytesLess x y))
 |.leq=>some (.bool (Go.Op.bytesLess x y||(x==y)))
 |.gtr=>some (.bool (!(Go.Op.bytesLess x y||(x==y))))
 |.geq=>some (.bool (!Go.Op.bytesLess x y))
 |_=>none
def kf:BinOp→Bool
 |.shl|.shr=>true
 |_=>false
def xD(op:BinOp)(x y:AV):Option AV:=
 match x,y with
 |.int k a,.int k' b=>cond (kf op) (nj op k a b) (cond (decide (k=k')) (rG op k a b) none)
 |.str a,.str b=>zx op a b
 |_,_=>none
def fk(x y:AV):Option Bool:=
 match x,y with
 |.int k a,.int k' b=>cond (decide (k=k')) (some (a==b)) none
 |_,_=>none
def vM(k:Nat)(x y:AV):Option Bool:=
 match k,x,y with
 |0,.int k a,.int k' b=>cond (decide (k=k')) (some (a==b)) none
 |1,.bool a,.bool b=>some (a==b)
 |2,.str a,.str b=>some (a==b)
 |_,_,_=>none
def iu:List Nat→List AV→List AV→Option Bool
 |[],_,_=>some true
 |k::ks,x::xs,y::ys=>match vM k x y with
  |some true=>iu ks xs ys
  |some false=>some false
  |none=>none
 |_,_,_=>none
def CZ(k:HX)(x y:AV):Option Bool:=
 match k,x,y with
 |.cells ks,.agg xs,.agg ys=>iu ks xs ys
 |.bool,.bool a,.bool b=>some (a==b)
 |.dh,.bq,.bq=>some true
 |.dh,.ptr _ _,.bq=>some false
 |.dh,.bq,.ptr _ _=>some false
 |.mh,.aH,.aH=>some true
 |.mh,.sl _ _ _ _ _,.aH=>some false
 |.mh,.aH,.sl _ _ _ _ _=>some false
 |.mh,.fY _,.aH=>some false
 |.mh,.aH,.fY _=>some false
 |.mh,.rest _ _ _,.aH=>some false
 |.mh,.aH,.rest _ _ _=>some false
 |.Aj,.jJ,.jJ=>some true
 |.Aj,.map _,.jJ=>some false
 |.Aj,.jJ,.map _=>some false
 |.yZ,.jz,.jz=>some true
 |.yZ,.func _ _ _,.jz=>some false
 |.yZ,.jz,.func _ _ _=>some false
 |.yZ,.yield _,.jz=>some false
 |.yZ,.jz,.yield _=>some false
 |.iface,.jI,.jI=>some true
 |.iface,.jI,.iface _ _=>some false
 |.iface,.iface _ _,.jI=>some false
 |_,_,_=>none
def fill:List AV→List (Nat×Nat)→List AV→Option (List AV)
 |cs,[],[]=>some cs
 |cs,(o,n)::ps,v::vs=>
  cond (Nat.beq v.cells.length n&&Nat.ble (o+n) cs.length) (fill (Heap.splice cs o v.cells) ps vs) none
 |_,_,_=>none
def asNat:AV→Option Nat
 |.int _ n=>match n with
  |.ofNat m=>some m
  |.negSucc _=>none
 |_=>none
def bounds(len cap:Nat)(lo hi mx:Bool)(args:List AV):Option (Nat×Nat×Nat):=
 let next (f:Bool) (d:Nat) (l:List AV):Option (Nat×List AV):=
  match f,l with
  |false,l=>some (d,l)
  |true,v::l=>(asNat v).map fun n=>(n,l)
  |true,[]=>none
 match next lo 0 args with
 |none=>none
 |some (l,r)=>match next hi len r with
  |none=>none
  |some (h,r)=>match next mx cap r with
   |none=>none
   |some (m,_)=>cond (Nat.ble l h&&Nat.ble h m&&Nat.ble m cap) (some (l,h,m)) none
def max2(x y:AV):Option AV:=
 match x,y with
 |.int k a,.int _ b=>some (.int k (cond (decide (b>a)) b a))
 |_,_=>none
def min2(x y:AV):Option AV:=
 match x,y with
 |.int k a,.int _ b=>some (.int k (cond (decide (b<a)) b a))
 |_,_=>none
def kU(f:AV→AV→Option AV):AV→List AV→Option AV
 |x,[]=>some x
 |x,y::r=>match f x y with
  |some z=>kU f z r
  |none=>none
def pI(o:qk)(args:List AV):Option AV:=
 match o,args with
 |.Ly,[x]=>some x
 |.pick,[.bool c,a,b]=>some (cond c a b)
 |.bin op,[x,y]=>xD op x y
 |.eq k,[x,y]=>(CZ k x y).map .bool
 |.neq k,[x,y]=>(CZ k x y).map fun b=>.bool !b
 |.not,[.bool b]=>some (.bool !b)
 |.neg,[.int k n]=>some (.int k (k.wrap (0-n)))
 |.FA,[.str s]=>some (.str s)
 |.conv k,[.int _ n]=>some (.int k (k.wrap n))
 |.field off n g,[.agg cs]=>part cs off n g
 |.ext i,[.cD vs]=>vs[i]?
 |.pT,[.ptr b o]=>some (.ptr b o)
 |.vO off,[.ptr b o]=>some (.ptr b (o+off))
 |.aG size,[.sl b o len _ _,i]=>match asNat i with
  |some i=>cond (Nat.ble (i+1) len) (some (.ptr b (o+i*size))) none
  |none=>none
 |.dR size len,[.ptr b o,i]=>match asNat i with
  |some i=>cond (Nat.ble (i+1) len) (some (.ptr b (o+i*size))) none
  |none=>none
 |.GK size len g,[.agg cs,i]=>match asNat i with
  |some i=>cond (Nat.ble (i+1) len) (part cs (i*size) size g) none
  |none=>none
 |.BO,[.str s,i]=>match asNat i with
  |some i=>(s[i]?).map fun b=>.int .u8 b.toNat
  |none=>none
 |.build iC parts,args=>(fill iC parts args).map .agg
 |.vm t,[x]=>some (.iface t x)
 |.jG fn n,args=>some (.func fn (args.take n) (args.drop n))
 |.bX,[.sl _ _ len _ _]=>some (.int .i64 len)
 |.bX,[.aH]=>some (.int .i64 0)
 |.bX,[.fY _]=>some (.int .i64 0)
 |.bX,[.rest _ _ _]=>some (.int .i64 0)
 |.wz,[.str s]=>some (.int .i64 s.length)
 |.GQ n,_=>some (.int .i64 n)
 |.mx,x::r=>kU max2 x r
 |.mn,x::r=>kU min2 x r
 |.slice size lo hi m,.sl b o len cap jS::r=>match bounds len cap lo hi m r with
  |some (l,h,mm)=>cond (Nat.beq mm l&&Nat.beq cap mm&&(jS&&!m&&!Nat.beq l 0)) (some (.rest b o (l*size))) (some (.sl b (o+cond (Nat.beq mm l) 0 (l*size)) (h-l) (mm-l) (cond m false jS)))
  |none=>none
 |.slice _ lo hi m,.aH::r=>match bounds 0 0 lo hi m r with
  |some _=>some .aH
  |none=>none
 |.slice _ lo hi m,.fY a::r=>match bounds 0 0 lo hi m r with
  |some _=>some (.fY a)
  |none=>none
 |.slice _ lo hi m,.rest b o k::r=>match bounds 0 0 lo hi m r with
  |some _=>cond m none (some (.rest b o k))
  |none=>none
 |.mw lo hi,.str s::r=>match bounds s.length s.length lo hi false r with
  |some (l,h,_)=>some (.str ((s.take h).drop l))
  |none=>none
 |.mu size len lo hi m,.ptr b o::r=>match bounds len len lo hi m r with
  |some (l,h,mm)=>some (.sl b (o+cond (Nat.beq mm l) 0 (l*size)) (h-l) (mm-l) false)
  |none=>none
 |.qK t ok zero,[x]=>match x with
  |.iface u v=>cond (Nat.beq u t) (some (cond ok (.cD [v,.bool true]) v)) (cond ok (some (.cD [zero,.bool false])) none)
  |.jI=>cond ok (some (.cD [zero,.bool false])) none
  |_=>none
 |_,_=>none
def dH(iC:List AV):Nat→List AV
 |0=>[]
 |n+1=>iC++dH iC n
def aI(o:SK)(args:List AV):Option (ck×(Nat→AV)):=
 match o,args with
 |.alloc iC,[]=>some (.cells iC true 0,fun b=>.ptr b 0)
 |.box,[v]=>some (.cells v.cells true 0,fun b=>.ptr b 0)
 |.dA iC len size parts,vs=>match fill (dH iC len) (parts.map fun i=>(i*size,size)) vs with
  |some cs=>some (.cells cs true 0,fun b=>.sl b 0 len len false)
  |none=>none
 |.jH iC _ bytes,[l,c]=>match asNat l,asNat c with
  |some l,some c=>cond (Nat.ble l c&&Nat.ble (bytes*c) 140737488355328&&Nat.ble c 9223372036854775807) (some (.cells (dH iC c) true 0,fun b=>.sl b 0 l c false)) none
  |_,_=>none
 |.Km,[]=>some (.map [] [] 0,fun b=>.map b)
 |_,_=>none
def findKey(k:AV):List (AV×AV)→Option (Option AV)
 |[]=>some none
 |(x,v)::r=>match fk k x with
  |some true=>some (some v)
  |some false=>findKey k r
  |none=>none
def putKey(k v:AV):List (AV×AV)→List (AV×AV)
 |[]=>[(k,v)]
 |(x,u)::r=>match fk k x with
  |some true=>(k,v)::r
  |_=>(x,u)::putKey k v r
def cY:List AV→Option (List UInt8)
 |[]=>some []
 |.int .u8 n::r=>(cY r).map fun l=>UInt8.ofNat n.toNat::l
 |_=>none
def oM(r:Option AV)(bs:List Nat)(c:Nat):List Nat:=match r with
 |some _=>bs
 |none=>bs++[c]
def vH(r:Option AV)(c:Nat):Nat:=match r with
 |some _=>c
 |none=>c+1
def delKey(k:AV):List (AV×AV)→List (AV×AV)
 |[]=>[]
 |(x,u)::r=>match fk k x with
  |some true=>r
  |_=>(x,u)::delKey k r
def mL(k:AV):List (AV×AV)→List Nat→List Nat
 |(x,_)::r,b::bs=>match fk k x with
  |some true=>bs
  |_=>b::mL k r bs
 |_,bs=>bs
def qt(st:Nat):List Nat→List (AV×AV)→Option AV
 |b::bs,(k,v)::es=>cond (Nat.beq b st) (some (.cD [k,v])) (qt st bs es)
 |_,_=>none
def tY(b:Nat):List Nat→Bool
 |[]=>false
 |c::l=>cond (Nat.beq c b) true (tY b l)
def oQ(seen:List Nat):List Nat→List Nat
 |[]=>[]
 |b::bs=>cond (tY b seen) (oQ seen bs) (b::oQ seen bs)
def AT(last:Nat):List Nat→Bool
 |[]=>false
 |b::bs=>cond (Nat.ble (b+1) last) true (AT last bs)
def pP(seen:List Nat)(last:Nat)(bs:List Nat):Bool:=seen.isEmpty||bs.isEmpty||AT last bs
def rI(o:Cy)(args:List AV)(h:Heap):Option AV:=
 match o,args with
 |.bY,[.ptr b o]=>h.bY b o
 |.bf n,[.ptr b o]=>(h.bf b o n).map .agg
 |.lookup ok zero,[.map b,k]=>match h.get b with
  |some (.map es _ _)=>match findKey k es with
   |some (some v)=>some (cond ok (.cD [v,.bool true]) v)
   |some none=>some (cond ok (.cD [zero,.bool false]) zero)
   |none=>none
  |_=>none
 |.lookup ok zero,[.jJ,_]=>some (cond ok (.cD [zero,.bool false]) zero)
 |.toStr,[.aH]=>some (.str [])
 |.toStr,[.fY _]=>some (.str [])
 |.toStr,[.rest _ _ _]=>some (.str [])
 |.toStr,[.sl b o len _ _]=>match h.bf b o len with
  |some cs=>(cY cs).map .str
  |none=>none
 |.Kf,[.jJ]=>some (.int .i64 0)
 |.Kf,[.map b]=>match h.get b with
  |some (.map es _ _)=>some (.int .i64 es.length)
  |_=>none
 |.entry,[.ptr it 0]=>match h.get it with
  |some (.iter m _ seen last)=>match seen.getLast?,h.get m with
   |some st,some (.map es bs c)=>cond (Nat.beq c last) (qt st bs es) none
   |_,_=>none
  |_=>none
 |_,_=>none
def aS(size:Nat)(h:Heap):AV→Option (Nat×List AV)
 |.aH=>some (0,[])
 |.fY _=>some (0,[])
 |.rest _ _ _=>some (0,[])
 |.sl b o len _ _=>(h.bf b o (len*size)).map fun cs=>(len,cs)
 |.str s=>cond (Nat.beq size 1) (some (s.length,s.map fun b=>.int .u8 b.toNat)) none
 |_=>none
def eI(o:xB)(args:List AV)(h:Heap):Option (AV×Heap):=
 match o,args with
 |.store n,[.ptr b o,v]=>cond (Nat.beq v.cells.length n) ((h.di b o v.cells).map fun h=>(.undef,h)) none
 |.append size bytes,[s,x]=>match aS size h x with
  |none=>none
  |some (n,new)=>cond (bz new) (match s with
   |.aH=>cond (Nat.beq n 0) (some (.aH,h))
     (cond (Nat.ble (n*bytes) 140737488355328&&Nat.ble n 9223372036854775807) (some (.sl h.next 0 n n true,h.new (.cells new true size))) none)
   |.sl b o len cap jS=>cond (Nat.beq n 0&&Nat.ble len cap) (some (.sl b o len cap jS,h)) (cond (Nat.ble (len+n) cap)
     ((h.di b (o+len*size) new).map fun h=>(.sl b o (len+n) cap jS,h))
     (cond (Nat.ble ((len+n)*bytes) 140737488355328&&Nat.ble (len+n) 9223372036854775807)
      (match h.get b,h.bf b o (len*size) with
      |some (.cells vs wr es),some old=>cond jS
        (cond (wr&&Nat.beq vs.length (o+len*size)&&Nat.beq cap len&&Nat.beq es size) (some (.sl h.next 0 (len+n) (len+n) true,(h.del b).new (.cells (old++new) true size))) none)
        (some (.sl h.next 0 (len+n) (len+n) true,h.new (.cells (old++new) true size)))
      |_,_=>none) none))
   |.fY a=>cond (Nat.beq n 0) (some (.fY a,h))
     (cond (Nat.ble (n*bytes) 140737488355328&&Nat.ble n 9223372036854775807) (some (.sl h.next 0 n n true,h.new (.cells new true size))) none)
   |_=>none) none
 |.copy size,[d,x]=>match d,aS size h x with
  |.aH,some _=>some (.int .i64 0,h)
  |.fY _,some _=>some (.int .i64 0,h)
  |.sl b o len _ _,some (n,new)=>(h.di b o (new.take (min n len*size))).map fun h=>(.int .i64 (min n len),h)
  |_,_=>none
 |.clear iC,[d]=>match d with
  |.aH=>some (.undef,h)
  |.sl b o len _ _=>(h.di b o (dH iC len)).map fun h=>(.undef,h)
  |_=>none
 |.ins,[.map b,k,v]=>match h.get b with
  |some (.map es bs c)=>match findKey k es with
   |some r=>some (.undef,h.set b (.map (putKey k v es) (oM r bs c) (vH r c)))
   |none=>none
  |_=>none
 |.range,[.map b]=>match h.get b with
  |some (.map _ _ c)=>some (.ptr h.next 0,h.new (.iter b c [] c))
  |_=>none
 |.next,[.ptr it 0]=>match h.get it with
  |some (.iter m _ seen last)=>match h.get m with
   |some (.map _ bs _)=>cond (pP seen last bs&&(oQ seen bs).isEmpty) (some (.cD [.bool false],h.del it)) none
   |_=>none
  |_=>none
 |.Kj,[.map b,k]=>match h.get b with
  |some (.map es bs c)=>match findKey k es with
   |some _=>some (.cD [],h.set b (.map (delKey k es) (mL k es bs) c))
   |none=>none
  |_=>none
 |.AD,[.str s]=>some (.sl h.next 0 s.length s.length true,h.new (.cells (s.map fun b=>.int .u8 b.toNat) true 1))
 |_,_=>none
def AR(n:Nat):List Nat→Bool
 |[]=>true
 |b::bs=>cond (Nat.ble (b+1) n) (AR n bs) false
def sV(h:Heap)(it m since:Nat)(seen:List Nat)(c:Nat):List Nat→List (AV×AV)→List (AV×Heap)
 |b::bs,(k,v)::es=>cond (tY b seen) (sV h it m since seen c bs es) ((.cD [.bool true,k,v],h.set it (.iter m since (seen++[b]) c))::sV h it m since seen c bs es)
 |_,_=>[]
def rm(args:List AV)(h:Heap):Option (List (AV×Heap)):=
 match args with
 |[.ptr it 0]=>match h.get it with
  |some (.iter m since seen last)=>match h.get m with
   |some (.map es bs c)=>cond (pP seen last bs&&AR since (oQ seen bs)&&!(oQ seen bs).isEmpty) (some (sV h it m since seen c bs es)) none
   |_=>none
  |_=>none
 |_=>none
def eK(o:xB)(args:List AV)(h:Heap):Option (AV×Heap):=
 match o,args with
 |.append size bytes,[.sl b o len cap true,x]=>match aS size h x with
  |none=>none
  |some (n,new)=>match h.get b,h.bf b o (len*size) with
   |some (.cells vs true es),some old=>
    cond (bz new&&(!Nat.beq n 0&&Nat.ble ((len+n)*bytes) 140737488355328&&Nat.ble (len+n) 9223372036854775807)&&(Nat.beq vs.length (o+len*size)&&Nat.beq cap len&&Nat.beq es size))
     (some (.sl h.next 0 (len+n) (len+n) true,(h.set b (.cells vs false es)).new (.cells (old++new) false size))) none
   |_,_=>none
 |_,_=>none
mutual
def jP:Nat→Value→Option AV
 |0,_=>none
 |f+1,v=>match v with
  |.bool b=>some (.bool b)
  |.int k n=>some (.int k n)
  |.string s=>some (.str s.data.toList)
  |.pointer none=>some .bq
  |.slice none 0 0=>some .aH
  |.map none=>some .jJ
  |.nilFunc=>some .jz
  |.nilIface=>some .jI
  |.func (.func g) a c=>match oL f a.toList,oL f c.toList with
   |some a,some c=>some (.func (.func g) a c)
   |_,_=>none
  |.iface t v=>(jP f v).map (.iface t)
  |.agg cs=>(oL f cs.toList).map .agg
  |.tuple vs=>(oL f vs.toList).map .cD
  |_=>none
def oL:Nat→List Value→Option (List AV)
 |0,_=>none
 |_+1,[]=>some []
 |f+1,v::vs=>match jP f v,oL f vs with
  |some x,some xs=>some (x::xs)
  |_,_=>none
end
def fuel:Nat:=100000
def dD:Operand→Option bE
 |.tmp t=>some (.t t)
 |.const v=>(jP fuel v).map .c
 |.func f=>some (.c (.func (.func f) [] []))
 |.global _=>none
def cn:List Operand→Option (List bE)
 |[]=>some []
 |x::xs=>match dD x,cn xs with
  |some r,some rs=>some (r::rs)
  |_,_=>none
variable (P:Program)
def eX(t:TypeId):Option Nat:=(P.info? t).map (·.size)
def rH(t:TypeId):Option Nat:=(P.info? t).map (·.bytes)
def mX(t:TypeId):Option AV:=match P.info? t with
 |some i=>i.zero.bind (jP fuel)
 |none=>none
def mb(t:TypeId):Option Bool:=(P.underlying t).map fun
 |.struct _|.array _ _=>true
 |_=>false
def mP:Nat→List Field→Option (List Nat)
 |_,[]=>some []
 |i,f::fs=>cond (f.name != "_" &&Nat.beq f.offset i) (match P.underlying f.type with
  |some (.int _)=>(mP (i+1) fs).map (0::·)
  |some .bool=>(mP (i+1) fs).map (1::·)
  |some .string=>(mP (i+1) fs).map (2::·)
  |_=>none) none
def pq(t:TypeId):Option HX:=
 match P.underlying t with
 |some (.struct fs)=>cond (P.stoodInHeld t||P.eqGuardType P.depth t) none ((mP P 0 fs.toList).map .cells)
 |some .bool=>some .bool
 |some (.pointer _)=>some .dh
 |some (.slice _)=>some .mh
 |some (.map _ _)=>some .Aj
 |some (.func _ _ _)=>some .yZ
 |some (.interface _)=>some .iface
 |_=>none
def fo:Operand→Bool
 |.const _=>true
 |_=>false
def kD(t:TypeId):Bool:=match P.underlying t with
 |some (.interface _)=>true
 |_=>false
def pO:TypeDesc→Bool
 |.slice _|.string=>true
 |_=>false
def nX(fs:Array Field)(i:Nat):Option (Nat×Nat):=
 match fs[i]? with
 |some f=>(eX P f.type).map fun n=>(f.offset,n)
 |none=>none
def partsOf(ps:List (Nat×Operand))(place:Nat→Option (Nat×Nat)):Option (List (Nat×Nat)×List bE):=
 match ps with
 |[]=>some ([],[])
 |(i,x)::r=>match place i,dD x,partsOf r place with
  |some p,some a,some (ps,as)=>some (p::ps,a::as)
  |_,_,_=>none
def qE(xs:List (Option Operand)):Option (List bE):=cn (xs.filterMap id)
def one(op:fZ)(xs:List Operand):Option (fZ×List bE):=(cn xs).map fun rs=>(op,rs)
def az(o:Op):Option (fZ×List bE):=
 match o with
 |.move x|.assign x=>one (.p .Ly) [x]
 |.pick c a b=>one (.p .pick) [c,a,b]
 |.alloc t=>(mX P t).bind fun z=>one (.a (.alloc z.cells)) []
 |.box _ x=>one (.a .box) [x]
 |.build t ps=>match mX P t,P.underlying t with
  |some z,some (.struct fs)=>if !(fs.all fun f=>(eX P f.type).isSome) then none else(partsOf ps.toList (nX P fs)).map fun(l,as)=>(.p (.build z.cells l),as)
  |some z,some (.array _ e)=>match eX P e with
   |some n=>(partsOf ps.toList fun i=>some (i*n,n)).map fun(l,as)=>(.p (.build z.cells l),as)
   |none=>none
  |_,_=>none
 |.buildSlice t len ps=>match P.underlying t with
  |some (.slice e)=>match eX P e,mX P e with
   |some n,some z=>if len*n>2^24||z.cells.length !=n then none else(partsOf ps.toList fun i=>some (i,0)).map fun(l,as)=>(.a (.dA z.cells len n (l.map (·.1))),as)
   |_,_=>none
  |_=>none
 |.load t a=>match mb P t,eX P t with
  |some true,some n=>one (.r (.bf n)) [a]
  |some false,some _=>one (.r .bY) [a]
  |_,_=>none
 |.store t a x=>(eX P t).bind fun n=>one (.e (.store n)) [a,x]
 |.nilCheck x=>one (.p .pT) [x]
 |.binOp op t x y _=>match P.underlying t with
  |some (.int _)|some .string=>one (.p (.bin op)) [x,y]
  |_=>match op with
   |.eql=>if fo x||fo y||!kD P t then(pq P t).bind fun k=>one (.p (.eq k)) [x,y] else none
   |.neq=>if fo x||fo y||!kD P t then(pq P t).bind fun k=>one (.p (.neq k)) [x,y] else none
   |_=>none
 |.unOp .not _ x=>one (.p .not) [x]
 |.unOp .neg _ x=>one (.p .neg) [x]
 |.convert src dst x=>match P.underlying src,P.underlying dst with
  |some _,some (.int k)=>one (.p (.conv k)) [x]
  |some .string,some .string=>one (.p .FA) [x]
  |some .string,some (.slice e)=>match P.underlying e with
   |some (.int .u8)=>one .bad [x]
   |_=>none
  |some (.slice e),some .string=>match P.underlying e with
   |some (.int .u8)=>one (.r .toStr) [x]
   |_=>none
  |_,_=>none
 |.makeInterface t x=>match P.underlying t with
  |some (.interface _)=>none
  |some _=>one (.p (.vm t)) [x]
  |none=>none
 |.makeFunc fn first aF=>match fn with
  |.yield _=>none
  |fn=>one (.p (.jG fn first.size)) (first.toList++aF.toList)
 |.makeMap _ none=>one (.a .Km) []
 |.makeSlice t l c=>match P.underlying t with
  |some (.slice e)=>match eX P e,rH P e,mX P e with
   |some n,some b,some z=>if z.cells.length !=n then none else one (.a (.jH z.cells n b)) [l,c]
   |_,_,_=>none
  |_=>none
 |.slice t x lo hi mx=>if mx.isSome&&hi.isNone then none else match P.underlying t with
  |some (.slice e)=>match eX P e with
   |some n=>(qE [some x,lo,hi,mx]).map fun as=>(.p (.slice n lo.isSome hi.isSome mx.isSome),as)
   |none=>none
  |some .string=>if mx.isSome then none else(qE [some x,lo,hi]).map fun as=>(.p (.mw lo.isSome hi.isSome),as)
  |some (.array len e)=>match eX P e with
   |some n=>(qE [some x,lo,hi,mx]).map fun as=>(.p (.mu n len lo.isSome hi.isSome mx.isSome),as)
   |none=>none
  |_=>none
 |.fieldAddr t x i=>match P.underlying t with
  |some (.struct fs)=>match fs[i]? with
   |some f=>match eX P f.type with
    |some (_+1)=>one (.p (.vO f.offset)) [x]
    |_=>none
   |none=>none
  |_=>none
 |.field t x i=>match P.underlying t with
  |some (.struct fs)=>match fs[i]? with
   |some f=>match mb P f.type,eX P f.type with
    |some g,some n=>one (.p (.field f.offset n g)) [x]
    |_,_=>none
   |none=>none
  |_=>none
 |.indexAddr t x i=>match P.underlying t with
  |some (.slice e)=>(eX P e).bind fun n=>one (.p (.aG n)) [x,i]
  |some (.array len e)=>(eX P e).bind fun n=>one (.p (.dR n len)) [x,i]
  |_=>none
 |.index t x i=>match P.underlying t with
  |some .string=>one (.p .BO) [x,i]
  |some (.array len e)=>match mb P e,eX P e with
   |some g,some n=>one (.p (.GK n len g)) [x,i]
   |_,_=>none
  |_=>none
 |.lookup t m k ok=>match P.underlying t with
  |some (.map kt e)=>match P.underlying kt with
   |some (.int _)=>(mX P e).bind fun z=>one (.r (.lookup ok z)) [m,k]
   |some .string|some .bool=>one .bad [m,k]
   |_=>none
  |_=>none
 |.mapUpdate t m k v|.insert t m k v=>match P.underlying t with
  |some (.map kt _)=>match P.underlying kt with
   |some (.int _)=>one (.e .ins) [m,k,v]
   |some .string|some .bool=>one .bad [m,k,v]
   |_=>none
  |_=>none
 |.range t x=>match P.underlying t with
  |some (.map _ _)=>one (.e .range) [x]
  |_=>none
 |.next it false=>one (.e .next) [it]
 |.entry it=>one (.r .entry) [it]
 |.extract x i=>one (.p (.ext i)) [x]
 |.panic x=>one .panic [x]
 |.typeAssert x xt t ok=>match P.underlying t,P.underlying xt with
  |some (.interface _),_=>none
  |some _,some _=>(mX P t).bind fun z=>one (.p (.qK t ok z)) [x]
  |_,_=>none
 |.call c=>match c.callee with
  |.value f=>(cn (f::c.args.toList)).map fun rs=>(.call,rs)
  |.invoke r name=>(cn (r::c.args.toList)).map fun rs=>(.invoke name,rs)
  |.builtin b=>match b,c.args.toList,c.argTypes.toList with
   |.len,[x],[t]=>match P.underlying t with
    |some (.slice _)=>one (.p .bX) [x]
    |some .string=>one (.p .wz) [x]
    |some (.array n _)=>one (.p (.GQ n)) [x]
    |some (.map _ _)=>one .bad [x]
    |some (.pointer arr)=>match P.underlying arr with
     |some (.array n _)=>one (.p (.GQ n)) [x]
     |_=>none
    |_=>none
   |.max,x::xs,_=>one (.p .mx) (x::xs)
   |.min,x::xs,_=>one (.p .mn) (x::xs)
   |.append,[s,x],t::u::_=>match P.underlying t,P.underlying u with
    |some (.slice e),some d=>if !pO d then none else match eX P e,rH P e,mX P e with
     |some n,some b,some z=>if z.cells.length !=n then none else one (.e (.append n b)) [s,x]
     |_,_,_=>none
    |_,_=>none
   |.copy,[d,x],t::_=>match P.underlying t with
    |some (.slice e)=>(eX P e).bind fun n=>one (.e (.copy n)) [d,x]
    |_=>none
   |.clear,[d],[t]=>match P.underlying t with
    |some (.slice e)=>(mX P e).bind fun z=>one (.e (.clear z.cells)) [d]
    |some (.map _ _)=>one .bad [d]
    |_=>none
   |.delete,[m,k],t::_=>match P.underlying t with
    |some (.map kt _)=>match P.underlying kt with
     |some (.int _)=>one (.e .Kj) [m,k]
     |_=>none
    |_=>none
   |_,_,_=>none
 |_=>none
def vb(o:Oper):List bE:=
 match o.guard,o.op with
 |none,.defer c=>match c.callee,c.args.toList with
  |.value f,[]=>match dD f with
   |some r=>[.c (.bool true),r,r,r]
   |none=>[]
  |_,_=>[]
 |none,.call c=>match c.callee with
  |.builtin .recover=>[.c (.bool false),.c (.bool false),.c (.bool false),.c (.bool false)]
  |_=>[]
 |_,_=>[]
def pe(dst:Option Nat)(r:bE):bu:=⟨dst,none,.bad,[.c (.bool true),r,r,r]⟩
def xY(t:Nat):bu:=⟨some t,none,.bad,[.c (.bool false),.c (.bool false),.c (.bool false),.c (.bool false)]⟩
def bF(ops:Array Oper)(o:Oper):bu:=
 let g:Option (Option (Nat×Bool)):=match o.guard with
  |none=>some none
  |some (j,want)=>match(ops[j]?).bind (·.dst) with
   |some d=>some (some (d,want))
   |none=>none
 match g,az P o.op with
 |some g,some (op,as)=>⟨o.dst,g,op,as⟩
 |_,_=>⟨o.dst,none,.bad,vb o⟩
def bP:fZ→Bool
 |.e _|.call|.invoke _|.panic=>true
 |_=>false
def JX:fZ→Bool
 |.r _=>true
 |_=>false
def nS(ops:Array Oper):List Nat:=(Region.before ops).toList
def tI{α:Type}(f:Nat→α→Bool):Nat→List α→Bool
 |_,[]=>true
 |i,x::l=>cond (f i x) (tI f (i+1) l) false
def gV:List bE→List Nat
 |[]=>[]
 |.t i::r=>i::gV r
 |.c _::r=>gV r
def bu.reads(i:bu):List Nat:=(match i.guard with|some (d,_)=>[d]|none=>[])++gV i.args
def bu.names(i:bu):List Nat:=i.dst.toList++i.reads
def nR(x y:bu):Bool:=
 (match x.dst with|some d=>!(y.names.contains d)|none=>true)&&(match y.dst with|some d=>!(x.names.contains d)|none=>true)
def linked(y:bu):List bu→Bool
 |[]=>false
 |z::r=>(bP y.op&&bP z.op)||!(nR y z)||linked y r
def oe:List bu→Bool
 |[]=>true
 |[_]=>true
 |y::z::r=>linked y (z::r)&&oe (z::r)
def vo(bs:List Nat)(l:List bu):Bool:=
 tI (fun j y=>tI (fun i x=>decide (j≤i)||(bs.getD j 0).testBit i||(!(bP x.op&&bP y.op)&&nR x y)) 0 l) 0 l
def lf(bs:List Nat)(ops:List Oper):Bool:=
 tI (fun i o=>decide (bs.getD i 0<2^i)&&Nat.beq (bs.getD i 0) (o.after.toList.foldl (fun s e=>cond (Region.binds .any e) (s|||2^e.on|||bs.getD e.on 0) s) 0)) 0 ops
def uK(bs:List Nat)(Gl:List Nat)(i c:Nat):Bool:=
 Gl.all fun p=>(!(bs.getD i 0).testBit p||decide (p<c))&&(!(bs.getD p 0).testBit i||!decide (p<c))
def b8(l:List bu):List Nat:=(List.range l.length).filter fun i=>match l[i]? with|some x=>bP x.op|none=>false
def o8(bs:List Nat)(l:List bu)(Gl:List Nat)(i:Nat):List Nat:=
 (0::Gl.map (· +1)).filter (uK bs Gl i)
def kQ(bs:List Nat)(l:List bu)(Gl:List Nat)(i:Nat):List Nat:=
 match l[i]? with
 |some x=>cond (JX x.op) (match o8 bs l Gl i with
   |[_]=>[]
   |cs=>cs) []
 |none=>[]
def gT(ops:Array Oper)(draw:Bool):AC:=
 let l:=ops.toList.map (bF P ops)
 if !draw then .ops l else
 let bs:=nS ops
 if vo bs l&&lf bs ops.toList then .cB l ((List.range l.length).map (kQ bs l (b8 l))) else .bad
def aB:Code→AC
 |.skip=>.skip
 |.region _ ops draw=>gT P ops draw
 |.seq a b=>.seq (aB a) (aB b)
 |.cond c a b=>match dD c with
  |some r=>.cond r (aB a) (aB b)
  |none=>.bad
 |.block id c=>.block id (aB c)
 |.loop c=>.loop (aB c)
 |.rangeFunc g ps a c=>match dD g with
  |some r=>.rangeFunc r ps.toList (aB a) (aB c)
  |none=>.bad
 |.scope c=>aB c
 |.label _=>.skip
 |.exit id=>.exit id
 |.ret=>.ret
 |_=>.bad
def iq:List ResultVar→Option (List rB)
 |[]=>some []
 |.tmp t::r=>(iq r).map (.tmp t::·)
 |.cell a t::r=>match mb P t,eX P t,iq r with
  |some g,some n,some rs=>some (.cell a n g::rs)
  |_,_,_=>none
def aj(fn:Func):Option aq:=
 match fn.body,iq P fn.results.toList with
 |some c,some rs=>if(fn.name== "runtime.NumGoroutine")||!codeOk fn.ntmps (aB P c) then none else some ⟨fn.ntmps,rs,aB P c⟩
 |_,_=>none
end Ads
end Go.Proofs.YtnlcabhfkpafmaaGreat
