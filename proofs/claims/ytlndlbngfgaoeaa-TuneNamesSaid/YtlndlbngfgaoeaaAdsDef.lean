/-
  The abstract deterministic semantics 'Ads': values, heap, instructions, the compiling of the model's operations. No statement about the model stands here.
-/
import GoSem.Dispatch
set_option linter.unusedVariables false
namespace Go.Proofs.Ytlndlbngfgaoeaa
namespace Ads

inductive AV where
 | bool (b : Bool)
 | int (k : IntKind) (n : Int)
 | str (s : List UInt8)
 | ptr (b o : Nat)
 | nilp
 | sl (b o len cap : Nat) (opn : Bool)
 | nils
 | wild (a : Addr)
 | map (b : Nat)
 | nilm
 | func (fn : Fn) (first capt : List AV)
 | nilf
 | yield (b : Nat)
 | iface (t : Nat) (v : AV)
 | nili
 | agg (cs : List AV)
 | tup (vs : List AV)
 | fz (k : Nat) (l : List AV)
 | fp (cs : List AV) (o : Nat)
 | rest (b o k : Nat)
 deriving Inhabited

def AV.undef : AV := .tup []

def AV.cells : AV → List AV
 | .agg cs => cs
 | v => [v]

def AV.flat : AV → Bool
 | .agg _ | .tup _ => false
 | _ => true

def flatL : List AV → Bool
 | [] => true
 | v :: vs => cond v.flat (flatL vs) false

inductive Tr (α : Type) where
 | nil
 | node (l : Tr α) (v : Option α) (r : Tr α)

namespace Tr
variable {α : Type}
def get : Tr α → Nat → Option α
 | .nil, _ => none
 | .node l v r, n => cond (Nat.beq n 0) v (cond (Nat.beq (n % 2) 1) (l.get (n / 2)) (r.get (n / 2 - 1)))
def left : Tr α → Tr α
 | .nil => .nil
 | .node l _ _ => l
def right : Tr α → Tr α
 | .nil => .nil
 | .node _ _ r => r
def val : Tr α → Option α
 | .nil => none
 | .node _ v _ => v
def put (x : Option α) : Nat → Tr α → Nat → Tr α
 | 0, t, _ => t
 | f + 1, t, n => cond (Nat.beq n 0) (.node t.left x t.right)
   (cond (Nat.beq (n % 2) 1) (.node (put x f t.left (n / 2)) t.val t.right) (.node t.left t.val (put x f t.right (n / 2 - 1))))
def set (t : Tr α) (n : Nat) (x : α) : Tr α := put (some x) (n + 1) t n
def del (t : Tr α) (n : Nat) : Tr α := put none (n + 1) t n
end Tr

inductive EqK where
 | bool
 | nilptr
 | nilsl
 | nilmap
 | nilfn
 | iface
 | cells (ks : List Nat)
 deriving Inhabited

inductive POp where
 | mov
 | pick
 | bin (op : BinOp)
 | eq (k : EqK)
 | neq (k : EqK)
 | not
 | neg
 | conv (k : IntKind)
 | strid
 | field (off : Nat) (n : Nat) (agg : Bool)
 | ext (i : Nat)
 | nilchk
 | faddr (off : Nat)
 | iaddrS (size : Nat)
 | iaddrA (size len : Nat)
 | idxA (size len : Nat) (agg : Bool)
 | idxS
 | build (zeros : List AV) (parts : List (Nat × Nat))
 | mkiface (t : Nat)
 | mkfunc (fn : Fn) (nfirst : Nat)
 | lenS
 | lenStr
 | lenA (n : Nat)
 | mx
 | mn
 | slice (size : Nat) (lo hi mx : Bool)
 | sliceStr (lo hi : Bool)
 | sliceArr (size len : Nat) (lo hi mx : Bool)
 | tassert (t : Nat) (ok : Bool) (zero : AV)
 deriving Inhabited

inductive AOp where
 | alloc (zeros : List AV)
 | box
 | bslice (zeros : List AV) (len size : Nat) (parts : List Nat)
 | mkslice (zeros : List AV) (size bytes : Nat)
 | mkmap
 deriving Inhabited

inductive ROp where
 | load1
 | loadN (n : Nat)
 | lookup (ok : Bool) (zero : AV)
 | toStr
 | lenM
 | entry
 deriving Inhabited

inductive EOp where
 | store (n : Nat)
 | append (size bytes : Nat)
 | appendStr
 | copy (size : Nat)
 | clear (zeros : List AV)
 | ins
 | toBytes
 | range
 | next
 | mdel
 deriving Inhabited

inductive Rand where
 | t (i : Nat)
 | c (v : AV)
 deriving Inhabited

inductive IOp where
 | p (o : POp)
 | a (o : AOp)
 | r (o : ROp)
 | e (o : EOp)
 | call
 | invoke (name : String)
 | panic
 | bad
 deriving Inhabited

structure Ins where
 dst : Option Nat
 guard : Option (Nat × Bool)
 op : IOp
 args : List Rand
 deriving Inhabited

inductive AC where
 | skip
 | ops (l : List Ins)
 | dops (l : List Ins) (win : List (List Nat))
 | seq (a b : AC)
 | cond (c : Rand) (a b : AC)
 | block (id : Nat) (c : AC)
 | loop (c : AC)
 | rangeFunc (f : Rand) (ps : List Nat) (a b : AC)
 | exit (id : Nat)
 | ret
 | bad
 deriving Inhabited

inductive AX where
 | normal
 | exit (id : Nat)
 | ret
 | panic (v : AV)
 deriving Inhabited

inductive Blk where
 | cells (vs : List AV) (wr : Bool) (es : Nat)
 | map (es : List (AV × AV)) (bs : List Nat) (c : Nat)
 | iter (m since : Nat) (seen : List Nat) (last : Nat)
 | loop (st : Nat) (pend : Option AX) (e : Tr AV) (ps : List Nat) (a b : AC)
 | defers
 deriving Inhabited

structure Heap where
 next : Nat
 m : Tr Blk

namespace Heap
def get (h : Heap) (b : Nat) : Option Blk := h.m.get b
def new (h : Heap) (x : Blk) : Heap := ⟨h.next + 1, h.m.set h.next x⟩
def set (h : Heap) (b : Nat) (x : Blk) : Heap := ⟨h.next, h.m.set b x⟩
def del (h : Heap) (b : Nat) : Heap := ⟨h.next, h.m.del b⟩
def row (h : Heap) (b : Nat) : Option (List AV) :=
 match h.get b with
 | some (.cells vs _ _) => some vs
 | _ => none
def load1 (h : Heap) (b o : Nat) : Option AV :=
 match h.row b with
 | some vs => vs[o]?
 | none => none
def loadN (h : Heap) (b o n : Nat) : Option (List AV) :=
 match h.row b with
 | some vs => cond (Nat.ble (o + n) vs.length) (some ((vs.drop o).take n)) none
 | none => none
def splice {α : Type} : List α → Nat → List α → List α
 | vs, 0, [] => vs
 | [], _, _ => []
 | _ :: vs, 0, x :: xs => x :: splice vs 0 xs
 | v :: vs, o + 1, xs => v :: splice vs o xs
def storeN (h : Heap) (b o : Nat) (xs : List AV) : Option Heap :=
 match h.get b with
 | some (.cells vs true es) => cond (Nat.ble (o + xs.length) vs.length && flatL xs) (some (h.set b (.cells (splice vs o xs) true es))) none
 | _ => none
end Heap

inductive RVar where
 | tmp (t : Nat)
 | cell (a : Nat) (n : Nat) (agg : Bool)
 deriving Inhabited

structure AFunc where
 ntmps : Nat
 results : List RVar
 body : AC
 deriving Inhabited

abbrev Env := Tr AV
def Env.get (e : Env) (i : Nat) : AV := (Tr.get e i).getD .undef
def Env.put (e : Env) (d : Option Nat) (v : AV) : Env :=
 match d with
 | some d => Tr.set e d v
 | none => e
def Env.ev (e : Env) : Rand → AV
 | .t i => e.get i
 | .c v => v
def Env.args : List AV → Nat → Env → Env
 | [], _, e => e
 | v :: vs, i, e => Env.args vs (i + 1) (Tr.set e i v)

def Tr.full {α : Type} : Nat → Tr α
 | 0 => .nil
 | d + 1 => .node (Tr.full d) none (Tr.full d)
def Env.start (n : Nat) (args : List AV) : Env := Env.args args 0 (Tr.full (Nat.log2 n + 1))

/- Slots that are written lie in the frame. -/
def dstOk (n : Nat) (d : Option Nat) : Bool :=
 match d with
 | some d => Nat.ble (d + 1) n
 | none => true
def opsOk (n : Nat) : List Ins → Bool
 | [] => true
 | i :: l => dstOk n i.dst && opsOk n l
def allBelow (n : Nat) : List Nat → Bool
 | [] => true
 | t :: l => Nat.ble (t + 1) n && allBelow n l
def codeOk (n : Nat) : AC → Bool
 | .ops l => opsOk n l
 | .dops l _ => opsOk n l
 | .seq a b => codeOk n a && codeOk n b
 | .cond _ a b => codeOk n a && codeOk n b
 | .block _ c => codeOk n c
 | .loop c => codeOk n c
 | .rangeFunc _ ps a b => allBelow n ps && codeOk n a && codeOk n b
 | _ => true


def noRange : AC → Bool
 | .seq a b => noRange a && noRange b
 | .cond _ a b => noRange a && noRange b
 | .block _ c => noRange c
 | .loop c => noRange c
 | .rangeFunc _ _ _ _ => false
 | _ => true

/- THE OPERATIONS. -/

def part (cs : List AV) (off n : Nat) (agg : Bool) : Option AV :=
 cond agg (cond (Nat.ble (off + n) cs.length) (some (.agg ((cs.drop off).take n))) none) cs[off]?

def binInt (op : BinOp) (k : IntKind) (x y : Int) : Option AV :=
 match op with
 | .add => some (.int k (k.wrap (x + y)))
 | .sub => some (.int k (k.wrap (x - y)))
 | .mul => some (.int k (k.wrap (x * y)))
 | .quo => cond (decide (y = 0)) none (some (.int k (k.wrap (x.tdiv y))))
 | .rem => cond (decide (y = 0)) none (some (.int k (x.tmod y)))
 | .and => some (.int k (k.wrap (BitVec.ofInt k.bits x &&& BitVec.ofInt k.bits y).toNat))
 | .or => some (.int k (k.wrap (BitVec.ofInt k.bits x ||| BitVec.ofInt k.bits y).toNat))
 | .xor => some (.int k (k.wrap (BitVec.ofInt k.bits x ^^^ BitVec.ofInt k.bits y).toNat))
 | .andNot => some (.int k (k.wrap (BitVec.ofInt k.bits x &&& ~~~ BitVec.ofInt k.bits y).toNat))
 | .eql => some (.bool (x == y))
 | .neq => some (.bool (x != y))
 | .lss => some (.bool (decide (x < y)))
 | .leq => some (.bool (decide (x ≤ y)))
 | .gtr => some (.bool (decide (x > y)))
 | .geq => some (.bool (decide (x ≥ y)))
 | _ => none

def binShift (op : BinOp) (k : IntKind) (x y : Int) : Option AV :=
 cond (decide (y < 0)) none
  (match op with
  | .shl => some (.int k (k.wrap (x * 2 ^ (min y.toNat k.bits))))
  | .shr => some (.int k (x.fdiv (2 ^ (min y.toNat k.bits))))
  | _ => none)

def binStr (op : BinOp) (x y : List UInt8) : Option AV :=
 match op with
 | .add => cond (Nat.ble (x.length + y.length) 9223372036854775807) (some (.str (x ++ y))) none
 | .eql => some (.bool ((x == y)))
 | .neq => some (.bool (!(x == y)))
 | .lss => some (.bool (Go.Op.bytesLess x y))
 | .leq => some (.bool (Go.Op.bytesLess x y || (x == y)))
 | .gtr => some (.bool (!(Go.Op.bytesLess x y || (x == y))))
 | .geq => some (.bool (!Go.Op.bytesLess x y))
 | _ => none

def isShift : BinOp → Bool
 | .shl | .shr => true
 | _ => false

def binA (op : BinOp) (x y : AV) : Option AV :=
 match x, y with
 | .int k a, .int k' b => cond (isShift op) (binShift op k a b) (cond (decide (k = k')) (binInt op k a b) none)
 | .str a, .str b => binStr op a b
 | _, _ => none

def eqScalar (x y : AV) : Option Bool :=
 match x, y with
 | .int k a, .int k' b => cond (decide (k = k')) (some (a == b)) none
 | _, _ => none

def eqOne (k : Nat) (x y : AV) : Option Bool :=
 match k, x, y with
 | 0, .int k a, .int k' b => cond (decide (k = k')) (some (a == b)) none
 | 1, .bool a, .bool b => some (a == b)
 | 2, .str a, .str b => some (a == b)
 | _, _, _ => none
def eqCells : List Nat → List AV → List AV → Option Bool
 | [], _, _ => some true
 | k :: ks, x :: xs, y :: ys => match eqOne k x y with
  | some true => eqCells ks xs ys
  | some false => some false
  | none => none
 | _, _, _ => none

def eqA (k : EqK) (x y : AV) : Option Bool :=
 match k, x, y with
 | .cells ks, .agg xs, .agg ys => eqCells ks xs ys
 | .bool, .bool a, .bool b => some (a == b)
 | .nilptr, .nilp, .nilp => some true
 | .nilptr, .ptr _ _, .nilp => some false
 | .nilptr, .nilp, .ptr _ _ => some false
 | .nilsl, .nils, .nils => some true
 | .nilsl, .sl _ _ _ _ _, .nils => some false
 | .nilsl, .nils, .sl _ _ _ _ _ => some false
 | .nilsl, .wild _, .nils => some false
 | .nilsl, .nils, .wild _ => some false
 | .nilsl, .rest _ _ _, .nils => some false
 | .nilsl, .nils, .rest _ _ _ => some false
 | .nilmap, .nilm, .nilm => some true
 | .nilmap, .map _, .nilm => some false
 | .nilmap, .nilm, .map _ => some false
 | .nilfn, .nilf, .nilf => some true
 | .nilfn, .func _ _ _, .nilf => some false
 | .nilfn, .nilf, .func _ _ _ => some false
 | .nilfn, .yield _, .nilf => some false
 | .nilfn, .nilf, .yield _ => some false
 | .iface, .nili, .nili => some true
 | .iface, .nili, .iface _ _ => some false
 | .iface, .iface _ _, .nili => some false
 | _, _, _ => none

def fill : List AV → List (Nat × Nat) → List AV → Option (List AV)
 | cs, [], [] => some cs
 | cs, (o, n) :: ps, v :: vs =>
  cond (Nat.beq v.cells.length n && Nat.ble (o + n) cs.length) (fill (Heap.splice cs o v.cells) ps vs) none
 | _, _, _ => none

def asNat : AV → Option Nat
 | .int _ n => match n with
  | .ofNat m => some m
  | .negSucc _ => none
 | _ => none

def bounds (len cap : Nat) (lo hi mx : Bool) (args : List AV) : Option (Nat × Nat × Nat) :=
 let next (f : Bool) (d : Nat) (l : List AV) : Option (Nat × List AV) :=
  match f, l with
  | false, l => some (d, l)
  | true, v :: l => (asNat v).map fun n => (n, l)
  | true, [] => none
 match next lo 0 args with
 | none => none
 | some (l, r) => match next hi len r with
  | none => none
  | some (h, r) => match next mx cap r with
   | none => none
   | some (m, _) => cond (Nat.ble l h && Nat.ble h m && Nat.ble m cap) (some (l, h, m)) none

def max2 (x y : AV) : Option AV :=
 match x, y with
 | .int k a, .int _ b => some (.int k (cond (decide (b > a)) b a))
 | _, _ => none
def min2 (x y : AV) : Option AV :=
 match x, y with
 | .int k a, .int _ b => some (.int k (cond (decide (b < a)) b a))
 | _, _ => none
def fold2 (f : AV → AV → Option AV) : AV → List AV → Option AV
 | x, [] => some x
 | x, y :: r => match f x y with
  | some z => fold2 f z r
  | none => none

def pI (o : POp) (args : List AV) : Option AV :=
 match o, args with
 | .mov, [x] => some x
 | .pick, [.bool c, a, b] => some (cond c a b)
 | .bin op, [x, y] => binA op x y
 | .eq k, [x, y] => (eqA k x y).map .bool
 | .neq k, [x, y] => (eqA k x y).map fun b => .bool !b
 | .not, [.bool b] => some (.bool !b)
 | .neg, [.int k n] => some (.int k (k.wrap (0 - n)))
 | .strid, [.str s] => some (.str s)
 | .conv k, [.int _ n] => some (.int k (k.wrap n))
 | .field off n g, [.agg cs] => part cs off n g
 | .ext i, [.tup vs] => vs[i]?
 | .nilchk, [.ptr b o] => some (.ptr b o)
 | .faddr off, [.ptr b o] => some (.ptr b (o + off))
 | .iaddrS size, [.sl b o len _ _, i] => match asNat i with
  | some i => cond (Nat.ble (i + 1) len) (some (.ptr b (o + i * size))) none
  | none => none
 | .iaddrA size len, [.ptr b o, i] => match asNat i with
  | some i => cond (Nat.ble (i + 1) len) (some (.ptr b (o + i * size))) none
  | none => none
 | .idxA size len g, [.agg cs, i] => match asNat i with
  | some i => cond (Nat.ble (i + 1) len) (part cs (i * size) size g) none
  | none => none
 | .idxS, [.str s, i] => match asNat i with
  | some i => (s[i]?).map fun b => .int .u8 b.toNat
  | none => none
 | .build zeros parts, args => (fill zeros parts args).map .agg
 | .mkiface t, [x] => some (.iface t x)
 | .mkfunc fn n, args => some (.func fn (args.take n) (args.drop n))
 | .lenS, [.sl _ _ len _ _] => some (.int .i64 len)
 | .lenS, [.nils] => some (.int .i64 0)
 | .lenS, [.wild _] => some (.int .i64 0)
 | .lenS, [.rest _ _ _] => some (.int .i64 0)
 | .lenStr, [.str s] => some (.int .i64 s.length)
 | .lenA n, _ => some (.int .i64 n)
 | .mx, x :: r => fold2 max2 x r
 | .mn, x :: r => fold2 min2 x r
 | .slice size lo hi m, .sl b o len cap opn :: r => match bounds len cap lo hi m r with
  | some (l, h, mm) => cond (Nat.beq mm l && Nat.beq cap mm && (opn && !m && !Nat.beq l 0)) (some (.rest b o (l * size))) (some (.sl b (o + cond (Nat.beq mm l) 0 (l * size)) (h - l) (mm - l) (cond m false opn)))
  | none => none
 | .slice _ lo hi m, .nils :: r => match bounds 0 0 lo hi m r with
  | some _ => some .nils
  | none => none
 | .slice _ lo hi m, .wild a :: r => match bounds 0 0 lo hi m r with
  | some _ => some (.wild a)
  | none => none
 | .slice _ lo hi m, .rest b o k :: r => match bounds 0 0 lo hi m r with
  | some _ => cond m none (some (.rest b o k))
  | none => none
 | .sliceStr lo hi, .str s :: r => match bounds s.length s.length lo hi false r with
  | some (l, h, _) => some (.str ((s.take h).drop l))
  | none => none
 | .sliceArr size len lo hi m, .ptr b o :: r => match bounds len len lo hi m r with
  | some (l, h, mm) => some (.sl b (o + cond (Nat.beq mm l) 0 (l * size)) (h - l) (mm - l) false)
  | none => none
 | .tassert t ok zero, [x] => match x with
  | .iface u v => cond (Nat.beq u t) (some (cond ok (.tup [v, .bool true]) v)) (cond ok (some (.tup [zero, .bool false])) none)
  | .nili => cond ok (some (.tup [zero, .bool false])) none
  | _ => none
 | _, _ => none

def zerosN (zeros : List AV) : Nat → List AV
 | 0 => []
 | n + 1 => zeros ++ zerosN zeros n

def aI (o : AOp) (args : List AV) : Option (Blk × (Nat → AV)) :=
 match o, args with
 | .alloc zeros, [] => some (.cells zeros true 0, fun b => .ptr b 0)
 | .box, [v] => some (.cells v.cells true 0, fun b => .ptr b 0)
 | .bslice zeros len size parts, vs => match fill (zerosN zeros len) (parts.map fun i => (i * size, size)) vs with
  | some cs => some (.cells cs true 0, fun b => .sl b 0 len len false)
  | none => none
 | .mkslice zeros _ bytes, [l, c] => match asNat l, asNat c with
  | some l, some c => cond (Nat.ble l c && Nat.ble (bytes * c) 140737488355328 && Nat.ble c 9223372036854775807) (some (.cells (zerosN zeros c) true 0, fun b => .sl b 0 l c false)) none
  | _, _ => none
 | .mkmap, [] => some (.map [] [] 0, fun b => .map b)
 | _, _ => none

def findKey (k : AV) : List (AV × AV) → Option (Option AV)
 | [] => some none
 | (x, v) :: r => match eqScalar k x with
  | some true => some (some v)
  | some false => findKey k r
  | none => none

def putKey (k v : AV) : List (AV × AV) → List (AV × AV)
 | [] => [(k, v)]
 | (x, u) :: r => match eqScalar k x with
  | some true => (k, v) :: r
  | _ => (x, u) :: putKey k v r

def strBytes : List AV → Option (List UInt8)
 | [] => some []
 | .int .u8 n :: r => (strBytes r).map fun l => UInt8.ofNat n.toNat :: l
 | _ => none

def bornI (r : Option AV) (bs : List Nat) (c : Nat) : List Nat := match r with
 | some _ => bs
 | none => bs ++ [c]
def clkI (r : Option AV) (c : Nat) : Nat := match r with
 | some _ => c
 | none => c + 1
def delKey (k : AV) : List (AV × AV) → List (AV × AV)
 | [] => []
 | (x, u) :: r => match eqScalar k x with
  | some true => r
  | _ => (x, u) :: delKey k r
def bornD (k : AV) : List (AV × AV) → List Nat → List Nat
 | (x, _) :: r, b :: bs => match eqScalar k x with
  | some true => bs
  | _ => b :: bornD k r bs
 | _, bs => bs
def entryAt (st : Nat) : List Nat → List (AV × AV) → Option AV
 | b :: bs, (k, v) :: es => cond (Nat.beq b st) (some (.tup [k, v])) (entryAt st bs es)
 | _, _ => none
def hasN (b : Nat) : List Nat → Bool
 | [] => false
 | c :: l => cond (Nat.beq c b) true (hasN b l)
def leftB (seen : List Nat) : List Nat → List Nat
 | [] => []
 | b :: bs => cond (hasN b seen) (leftB seen bs) (b :: leftB seen bs)
def anyLt (last : Nat) : List Nat → Bool
 | [] => false
 | b :: bs => cond (Nat.ble (b + 1) last) true (anyLt last bs)
def iterOk (seen : List Nat) (last : Nat) (bs : List Nat) : Bool := seen.isEmpty || bs.isEmpty || anyLt last bs
def rI (o : ROp) (args : List AV) (h : Heap) : Option AV :=
 match o, args with
 | .load1, [.ptr b o] => h.load1 b o
 | .loadN n, [.ptr b o] => (h.loadN b o n).map .agg
 | .lookup ok zero, [.map b, k] => match h.get b with
  | some (.map es _ _) => match findKey k es with
   | some (some v) => some (cond ok (.tup [v, .bool true]) v)
   | some none => some (cond ok (.tup [zero, .bool false]) zero)
   | none => none
  | _ => none
 | .lookup ok zero, [.nilm, _] => some (cond ok (.tup [zero, .bool false]) zero)
 | .toStr, [.nils] => some (.str [])
 | .toStr, [.wild _] => some (.str [])
 | .toStr, [.rest _ _ _] => some (.str [])
 | .toStr, [.sl b o len _ _] => match h.loadN b o len with
  | some cs => (strBytes cs).map .str
  | none => none
 | .lenM, [.nilm] => some (.int .i64 0)
 | .lenM, [.map b] => match h.get b with
  | some (.map es _ _) => some (.int .i64 es.length)
  | _ => none
 | .entry, [.ptr it 0] => match h.get it with
  | some (.iter m _ seen last) => match seen.getLast?, h.get m with
   | some st, some (.map es bs c) => cond (Nat.beq c last) (entryAt st bs es) none
   | _, _ => none
  | _ => none
 | _, _ => none

def srcCells (size : Nat) (h : Heap) : AV → Option (Nat × List AV)
 | .nils => some (0, [])
 | .wild _ => some (0, [])
 | .rest _ _ _ => some (0, [])
 | .sl b o len _ _ => (h.loadN b o (len * size)).map fun cs => (len, cs)
 | .str s => cond (Nat.beq size 1) (some (s.length, s.map fun b => .int .u8 b.toNat)) none
 | _ => none

def eI (o : EOp) (args : List AV) (h : Heap) : Option (AV × Heap) :=
 match o, args with
 | .store n, [.ptr b o, v] => cond (Nat.beq v.cells.length n) ((h.storeN b o v.cells).map fun h => (.undef, h)) none
 | .append size bytes, [s, x] => match srcCells size h x with
  | none => none
  | some (n, new) => cond (flatL new) (match s with
   | .nils => cond (Nat.beq n 0) (some (.nils, h))
     (cond (Nat.ble (n * bytes) 140737488355328 && Nat.ble n 9223372036854775807) (some (.sl h.next 0 n n true, h.new (.cells new true size))) none)
   | .sl b o len cap opn => cond (Nat.beq n 0 && Nat.ble len cap) (some (.sl b o len cap opn, h)) (cond (Nat.ble (len + n) cap)
     ((h.storeN b (o + len * size) new).map fun h => (.sl b o (len + n) cap opn, h))
     (cond (Nat.ble ((len + n) * bytes) 140737488355328 && Nat.ble (len + n) 9223372036854775807)
      (match h.get b, h.loadN b o (len * size) with
      | some (.cells vs wr es), some old => cond opn
        (cond (wr && Nat.beq vs.length (o + len * size) && Nat.beq cap len && Nat.beq es size) (some (.sl h.next 0 (len + n) (len + n) true, (h.del b).new (.cells (old ++ new) true size))) none)
        (some (.sl h.next 0 (len + n) (len + n) true, h.new (.cells (old ++ new) true size)))
      | _, _ => none) none))
   | .wild a => cond (Nat.beq n 0) (some (.wild a, h))
     (cond (Nat.ble (n * bytes) 140737488355328 && Nat.ble n 9223372036854775807) (some (.sl h.next 0 n n true, h.new (.cells new true size))) none)
   | _ => none) none
 | .copy size, [d, x] => match d, srcCells size h x with
  | .nils, some _ => some (.int .i64 0, h)
  | .wild _, some _ => some (.int .i64 0, h)
  | .sl b o len _ _, some (n, new) => (h.storeN b o (new.take (min n len * size))).map fun h => (.int .i64 (min n len), h)
  | _, _ => none
 | .clear zeros, [d] => match d with
  | .nils => some (.undef, h)
  | .sl b o len _ _ => (h.storeN b o (zerosN zeros len)).map fun h => (.undef, h)
  | _ => none
 | .ins, [.map b, k, v] => match h.get b with
  | some (.map es bs c) => match findKey k es with
   | some r => some (.undef, h.set b (.map (putKey k v es) (bornI r bs c) (clkI r c)))
   | none => none
  | _ => none
 | .range, [.map b] => match h.get b with
  | some (.map _ _ c) => some (.ptr h.next 0, h.new (.iter b c [] c))
  | _ => none
 | .next, [.ptr it 0] => match h.get it with
  | some (.iter m _ seen last) => match h.get m with
   | some (.map _ bs _) => cond (iterOk seen last bs && (leftB seen bs).isEmpty) (some (.tup [.bool false], h.del it)) none
   | _ => none
  | _ => none
 | .mdel, [.map b, k] => match h.get b with
  | some (.map es bs c) => match findKey k es with
   | some _ => some (.tup [], h.set b (.map (delKey k es) (bornD k es bs) c))
   | none => none
  | _ => none
 | .toBytes, [.str s] => some (.sl h.next 0 s.length s.length true, h.new (.cells (s.map fun b => .int .u8 b.toNat) true 1))
 | _, _ => none

def allLt (n : Nat) : List Nat → Bool
 | [] => true
 | b :: bs => cond (Nat.ble (b + 1) n) (allLt n bs) false
def nextL (h : Heap) (it m since : Nat) (seen : List Nat) (c : Nat) : List Nat → List (AV × AV) → List (AV × Heap)
 | b :: bs, (k, v) :: es => cond (hasN b seen) (nextL h it m since seen c bs es) ((.tup [.bool true, k, v], h.set it (.iter m since (seen ++ [b]) c)) :: nextL h it m since seen c bs es)
 | _, _ => []
def nextC (args : List AV) (h : Heap) : Option (List (AV × Heap)) :=
 match args with
 | [.ptr it 0] => match h.get it with
  | some (.iter m since seen last) => match h.get m with
   | some (.map es bs c) => cond (iterOk seen last bs && allLt since (leftB seen bs) && !(leftB seen bs).isEmpty) (some (nextL h it m since seen c bs es)) none
   | _ => none
  | _ => none
 | _ => none

def eK (o : EOp) (args : List AV) (h : Heap) : Option (AV × Heap) :=
 match o, args with
 | .append size bytes, [.sl b o len cap true, x] => match srcCells size h x with
  | none => none
  | some (n, new) => match h.get b, h.loadN b o (len * size) with
   | some (.cells vs true es), some old =>
    cond (flatL new && (!Nat.beq n 0 && Nat.ble ((len + n) * bytes) 140737488355328 && Nat.ble (len + n) 9223372036854775807) && (Nat.beq vs.length (o + len * size) && Nat.beq cap len && Nat.beq es size))
     (some (.sl h.next 0 (len + n) (len + n) true, (h.set b (.cells vs false es)).new (.cells (old ++ new) false size))) none
   | _, _ => none
 | _, _ => none

/- COMPILING. -/

mutual
def avOf : Nat → Value → Option AV
 | 0, _ => none
 | f + 1, v => match v with
  | .bool b => some (.bool b)
  | .int k n => some (.int k n)
  | .string s => some (.str s.data.toList)
  | .pointer none => some .nilp
  | .slice none 0 0 => some .nils
  | .map none => some .nilm
  | .nilFunc => some .nilf
  | .nilIface => some .nili
  | .func (.func g) a c => match avsOf f a.toList, avsOf f c.toList with
   | some a, some c => some (.func (.func g) a c)
   | _, _ => none
  | .iface t v => (avOf f v).map (.iface t)
  | .agg cs => (avsOf f cs.toList).map .agg
  | .tuple vs => (avsOf f vs.toList).map .tup
  | _ => none
def avsOf : Nat → List Value → Option (List AV)
 | 0, _ => none
 | _ + 1, [] => some []
 | f + 1, v :: vs => match avOf f v, avsOf f vs with
  | some x, some xs => some (x :: xs)
  | _, _ => none
end
def fuel : Nat := 100000

def randOf : Operand → Option Rand
 | .tmp t => some (.t t)
 | .const v => (avOf fuel v).map .c
 | .func f => some (.c (.func (.func f) [] []))
 | .global _ => none

def randsOf : List Operand → Option (List Rand)
 | [] => some []
 | x :: xs => match randOf x, randsOf xs with
  | some r, some rs => some (r :: rs)
  | _, _ => none

variable (P : Program)
def sizeT (t : TypeId) : Option Nat := (P.info? t).map (·.size)
def bytesT (t : TypeId) : Option Nat := (P.info? t).map (·.bytes)
def zeroT (t : TypeId) : Option AV := match P.info? t with
 | some i => i.zero.bind (avOf fuel)
 | none => none
def isAggT (t : TypeId) : Option Bool := (P.underlying t).map fun
 | .struct _ | .array _ _ => true
 | _ => false

def fieldKs : Nat → List Field → Option (List Nat)
 | _, [] => some []
 | i, f :: fs => cond (f.name != "_" && Nat.beq f.offset i) (match P.underlying f.type with
  | some (.int _) => (fieldKs (i + 1) fs).map (0 :: ·)
  | some .bool => (fieldKs (i + 1) fs).map (1 :: ·)
  | some .string => (fieldKs (i + 1) fs).map (2 :: ·)
  | _ => none) none
def eqKOf (t : TypeId) : Option EqK :=
 match P.underlying t with
 | some (.struct fs) => cond (P.stoodInHeld t || P.eqGuardType P.depth t) none ((fieldKs P 0 fs.toList).map .cells)
 | some .bool => some .bool
 | some (.pointer _) => some .nilptr
 | some (.slice _) => some .nilsl
 | some (.map _ _) => some .nilmap
 | some (.func _ _ _) => some .nilfn
 | some (.interface _) => some .iface
 | _ => none

def isConstO : Operand → Bool
 | .const _ => true
 | _ => false

def isIfaceT (t : TypeId) : Bool := match P.underlying t with
 | some (.interface _) => true
 | _ => false

def isSrcD : TypeDesc → Bool
 | .slice _ | .string => true
 | _ => false

def fieldPlaceOf (fs : Array Field) (i : Nat) : Option (Nat × Nat) :=
 match fs[i]? with
 | some f => (sizeT P f.type).map fun n => (f.offset, n)
 | none => none

def partsOf (ps : List (Nat × Operand)) (place : Nat → Option (Nat × Nat)) : Option (List (Nat × Nat) × List Rand) :=
 match ps with
 | [] => some ([], [])
 | (i, x) :: r => match place i, randOf x, partsOf r place with
  | some p, some a, some (ps, as) => some (p :: ps, a :: as)
  | _, _, _ => none

def optArgs (xs : List (Option Operand)) : Option (List Rand) := randsOf (xs.filterMap id)

def one (op : IOp) (xs : List Operand) : Option (IOp × List Rand) := (randsOf xs).map fun rs => (op, rs)

def compOp (o : Op) : Option (IOp × List Rand) :=
 match o with
 | .move x | .assign x => one (.p .mov) [x]
 | .pick c a b => one (.p .pick) [c, a, b]
 | .alloc t => (zeroT P t).bind fun z => one (.a (.alloc z.cells)) []
 | .box _ x => one (.a .box) [x]
 | .build t ps => match zeroT P t, P.underlying t with
  | some z, some (.struct fs) => if !(fs.all fun f => (sizeT P f.type).isSome) then none else (partsOf ps.toList (fieldPlaceOf P fs)).map fun (l, as) => (.p (.build z.cells l), as)
  | some z, some (.array _ e) => match sizeT P e with
   | some n => (partsOf ps.toList fun i => some (i * n, n)).map fun (l, as) => (.p (.build z.cells l), as)
   | none => none
  | _, _ => none
 | .buildSlice t len ps => match P.underlying t with
  | some (.slice e) => match sizeT P e, zeroT P e with
   | some n, some z => if len * n > 2 ^ 24 || z.cells.length != n then none else (partsOf ps.toList fun i => some (i, 0)).map fun (l, as) => (.a (.bslice z.cells len n (l.map (·.1))), as)
   | _, _ => none
  | _ => none
 | .load t a => match isAggT P t, sizeT P t with
  | some true, some n => one (.r (.loadN n)) [a]
  | some false, some _ => one (.r .load1) [a]
  | _, _ => none
 | .store t a x => (sizeT P t).bind fun n => one (.e (.store n)) [a, x]
 | .nilCheck x => one (.p .nilchk) [x]
 | .binOp op t x y _ => match P.underlying t with
  | some (.int _) | some .string => one (.p (.bin op)) [x, y]
  | _ => match op with
   | .eql => if isConstO x || isConstO y || !isIfaceT P t then (eqKOf P t).bind fun k => one (.p (.eq k)) [x, y] else none
   | .neq => if isConstO x || isConstO y || !isIfaceT P t then (eqKOf P t).bind fun k => one (.p (.neq k)) [x, y] else none
   | _ => none
 | .unOp .not _ x => one (.p .not) [x]
 | .unOp .neg _ x => one (.p .neg) [x]
 | .convert src dst x => match P.underlying src, P.underlying dst with
  | some _, some (.int k) => one (.p (.conv k)) [x]
  | some .string, some .string => one (.p .strid) [x]
  | some .string, some (.slice e) => match P.underlying e with
   | some (.int .u8) => one .bad [x]
   | _ => none
  | some (.slice e), some .string => match P.underlying e with
   | some (.int .u8) => one (.r .toStr) [x]
   | _ => none
  | _, _ => none
 | .makeInterface t x => match P.underlying t with
  | some (.interface _) => none
  | some _ => one (.p (.mkiface t)) [x]
  | none => none
 | .makeFunc fn first capt => match fn with
  | .yield _ => none
  | fn => one (.p (.mkfunc fn first.size)) (first.toList ++ capt.toList)
 | .makeMap _ none => one (.a .mkmap) []
 | .makeSlice t l c => match P.underlying t with
  | some (.slice e) => match sizeT P e, bytesT P e, zeroT P e with
   | some n, some b, some z => if z.cells.length != n then none else one (.a (.mkslice z.cells n b)) [l, c]
   | _, _, _ => none
  | _ => none
 | .slice t x lo hi mx => if mx.isSome && hi.isNone then none else match P.underlying t with
  | some (.slice e) => match sizeT P e with
   | some n => (optArgs [some x, lo, hi, mx]).map fun as => (.p (.slice n lo.isSome hi.isSome mx.isSome), as)
   | none => none
  | some .string => if mx.isSome then none else (optArgs [some x, lo, hi]).map fun as => (.p (.sliceStr lo.isSome hi.isSome), as)
  | some (.array len e) => match sizeT P e with
   | some n => (optArgs [some x, lo, hi, mx]).map fun as => (.p (.sliceArr n len lo.isSome hi.isSome mx.isSome), as)
   | none => none
  | _ => none
 | .fieldAddr t x i => match P.underlying t with
  | some (.struct fs) => match fs[i]? with
   | some f => match sizeT P f.type with
    | some (_ + 1) => one (.p (.faddr f.offset)) [x]
    | _ => none
   | none => none
  | _ => none
 | .field t x i => match P.underlying t with
  | some (.struct fs) => match fs[i]? with
   | some f => match isAggT P f.type, sizeT P f.type with
    | some g, some n => one (.p (.field f.offset n g)) [x]
    | _, _ => none
   | none => none
  | _ => none
 | .indexAddr t x i => match P.underlying t with
  | some (.slice e) => (sizeT P e).bind fun n => one (.p (.iaddrS n)) [x, i]
  | some (.array len e) => (sizeT P e).bind fun n => one (.p (.iaddrA n len)) [x, i]
  | _ => none
 | .index t x i => match P.underlying t with
  | some .string => one (.p .idxS) [x, i]
  | some (.array len e) => match isAggT P e, sizeT P e with
   | some g, some n => one (.p (.idxA n len g)) [x, i]
   | _, _ => none
  | _ => none
 | .lookup t m k ok => match P.underlying t with
  | some (.map kt e) => match P.underlying kt with
   | some (.int _) => (zeroT P e).bind fun z => one (.r (.lookup ok z)) [m, k]
   | some .string | some .bool => one .bad [m, k]
   | _ => none
  | _ => none
 | .mapUpdate t m k v | .insert t m k v => match P.underlying t with
  | some (.map kt _) => match P.underlying kt with
   | some (.int _) => one (.e .ins) [m, k, v]
   | some .string | some .bool => one .bad [m, k, v]
   | _ => none
  | _ => none
 | .range t x => match P.underlying t with
  | some (.map _ _) => one (.e .range) [x]
  | _ => none
 | .next it false => one (.e .next) [it]
 | .entry it => one (.r .entry) [it]
 | .extract x i => one (.p (.ext i)) [x]
 | .panic x => one .panic [x]
 | .typeAssert x xt t ok => match P.underlying t, P.underlying xt with
  | some (.interface _), _ => none
  | some _, some _ => (zeroT P t).bind fun z => one (.p (.tassert t ok z)) [x]
  | _, _ => none
 | .call c => match c.callee with
  | .value f => (randsOf (f :: c.args.toList)).map fun rs => (.call, rs)
  | .invoke r name => (randsOf (r :: c.args.toList)).map fun rs => (.invoke name, rs)
  | .builtin b => match b, c.args.toList, c.argTypes.toList with
   | .len, [x], [t] => match P.underlying t with
    | some (.slice _) => one (.p .lenS) [x]
    | some .string => one (.p .lenStr) [x]
    | some (.array n _) => one (.p (.lenA n)) [x]
    | some (.map _ _) => one .bad [x]
    | some (.pointer arr) => match P.underlying arr with
     | some (.array n _) => one (.p (.lenA n)) [x]
     | _ => none
    | _ => none
   | .max, x :: xs, _ => one (.p .mx) (x :: xs)
   | .min, x :: xs, _ => one (.p .mn) (x :: xs)
   | .append, [s, x], t :: u :: _ => match P.underlying t, P.underlying u with
    | some (.slice e), some d => if !isSrcD d then none else match sizeT P e, bytesT P e, zeroT P e with
     | some n, some b, some z => if z.cells.length != n then none else one (.e (.append n b)) [s, x]
     | _, _, _ => none
    | _, _ => none
   | .copy, [d, x], t :: _ => match P.underlying t with
    | some (.slice e) => (sizeT P e).bind fun n => one (.e (.copy n)) [d, x]
    | _ => none
   | .clear, [d], [t] => match P.underlying t with
    | some (.slice e) => (zeroT P e).bind fun z => one (.e (.clear z.cells)) [d]
    | some (.map _ _) => one .bad [d]
    | _ => none
   | .delete, [m, k], t :: _ => match P.underlying t with
    | some (.map kt _) => match P.underlying kt with
     | some (.int _) => one (.e .mdel) [m, k]
     | _ => none
    | _ => none
   | _, _, _ => none
 | _ => none

def badArgs (o : Oper) : List Rand :=
 match o.guard, o.op with
 | none, .defer c => match c.callee, c.args.toList with
  | .value f, [] => match randOf f with
   | some r => [.c (.bool true), r, r, r]
   | none => []
  | _, _ => []
 | none, .call c => match c.callee with
  | .builtin .recover => [.c (.bool false), .c (.bool false), .c (.bool false), .c (.bool false)]
  | _ => []
 | _, _ => []

def dferI (dst : Option Nat) (r : Rand) : Ins := ⟨dst, none, .bad, [.c (.bool true), r, r, r]⟩
def rcvI (t : Nat) : Ins := ⟨some t, none, .bad, [.c (.bool false), .c (.bool false), .c (.bool false), .c (.bool false)]⟩

def compIns (ops : Array Oper) (o : Oper) : Ins :=
 let g : Option (Option (Nat × Bool)) := match o.guard with
  | none => some none
  | some (j, want) => match (ops[j]?).bind (·.dst) with
   | some d => some (some (d, want))
   | none => none
 match g, compOp P o.op with
 | some g, some (op, as) => ⟨o.dst, g, op, as⟩
 | _, _ => ⟨o.dst, none, .bad, badArgs o⟩

def isEff : IOp → Bool
 | .e _ | .call | .invoke _ | .panic => true
 | _ => false

def isRead : IOp → Bool
 | .r _ => true
 | _ => false

def befores (ops : Array Oper) : List Nat := (Region.before ops).toList

def allIdx {α : Type} (f : Nat → α → Bool) : Nat → List α → Bool
 | _, [] => true
 | i, x :: l => cond (f i x) (allIdx f (i + 1) l) false

def randTmps : List Rand → List Nat
 | [] => []
 | .t i :: r => i :: randTmps r
 | .c _ :: r => randTmps r

def Ins.reads (i : Ins) : List Nat := (match i.guard with | some (d, _) => [d] | none => []) ++ randTmps i.args
def Ins.names (i : Ins) : List Nat := i.dst.toList ++ i.reads

def apartI (x y : Ins) : Bool :=
 (match x.dst with | some d => !(y.names.contains d) | none => true) && (match y.dst with | some d => !(x.names.contains d) | none => true)

def linked (y : Ins) : List Ins → Bool
 | [] => false
 | z :: r => (isEff y.op && isEff z.op) || !(apartI y z) || linked y r
def lastOk : List Ins → Bool
 | [] => true
 | [_] => true
 | y :: z :: r => linked y (z :: r) && lastOk (z :: r)

def pairsOk (bs : List Nat) (l : List Ins) : Bool :=
 allIdx (fun j y => allIdx (fun i x => decide (j ≤ i) || (bs.getD j 0).testBit i || (!(isEff x.op && isEff y.op) && apartI x y)) 0 l) 0 l

def edgesOk (bs : List Nat) (ops : List Oper) : Bool :=
 allIdx (fun i o => decide (bs.getD i 0 < 2 ^ i) && Nat.beq (bs.getD i 0) (o.after.toList.foldl (fun s e => cond (Region.binds .any e) (s ||| 2 ^ e.on ||| bs.getD e.on 0) s) 0)) 0 ops

def mayAt (bs : List Nat) (effs : List Nat) (i c : Nat) : Bool :=
 effs.all fun p => (!(bs.getD i 0).testBit p || decide (p < c)) && (!(bs.getD p 0).testBit i || !decide (p < c))

def effsOf (l : List Ins) : List Nat := (List.range l.length).filter fun i => match l[i]? with | some x => isEff x.op | none => false

def cutsOf (bs : List Nat) (l : List Ins) (effs : List Nat) (i : Nat) : List Nat :=
 (0 :: effs.map (· + 1)).filter (mayAt bs effs i)

def window (bs : List Nat) (l : List Ins) (effs : List Nat) (i : Nat) : List Nat :=
 match l[i]? with
 | some x => cond (isRead x.op) (match cutsOf bs l effs i with
   | [_] => []
   | cs => cs) []
 | none => []

def compRegion (ops : Array Oper) (draw : Bool) : AC :=
 let l := ops.toList.map (compIns P ops)
 if !draw then .ops l else
 let bs := befores ops
 if pairsOk bs l && edgesOk bs ops.toList then .dops l ((List.range l.length).map (window bs l (effsOf l))) else .bad

def compCode : Code → AC
 | .skip => .skip
 | .region _ ops draw => compRegion P ops draw
 | .seq a b => .seq (compCode a) (compCode b)
 | .cond c a b => match randOf c with
  | some r => .cond r (compCode a) (compCode b)
  | none => .bad
 | .block id c => .block id (compCode c)
 | .loop c => .loop (compCode c)
 | .rangeFunc g ps a c => match randOf g with
  | some r => .rangeFunc r ps.toList (compCode a) (compCode c)
  | none => .bad
 | .scope c => compCode c
 | .label _ => .skip
 | .exit id => .exit id
 | .ret => .ret
 | _ => .bad

def compRes : List ResultVar → Option (List RVar)
 | [] => some []
 | .tmp t :: r => (compRes r).map (.tmp t :: ·)
 | .cell a t :: r => match isAggT P t, sizeT P t, compRes r with
  | some g, some n, some rs => some (.cell a n g :: rs)
  | _, _, _ => none

def compFunc (fn : Func) : Option AFunc :=
 match fn.body, compRes P fn.results.toList with
 | some c, some rs => if (fn.name == "runtime.NumGoroutine") || !codeOk fn.ntmps (compCode P c) then none else some ⟨fn.ntmps, rs, compCode P c⟩
 | _, _ => none

end Ads
end Go.Proofs.Ytlndlbngfgaoeaa
