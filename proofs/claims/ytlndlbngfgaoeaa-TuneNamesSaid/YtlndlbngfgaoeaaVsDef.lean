/-
  The layer 'Vs': the big steps of Ads with rows that nobody writes any more as plain values ('fz'), pointers into them ('fp'), and calls that are run on an empty heap.
-/
import Derived.Test.YtlndlbngfgaoeaaAdsEvalX
set_option linter.unusedVariables false
namespace Go.Proofs.Ytlndlbngfgaoeaa
namespace Ads

/- No block is named, at any depth. -/
mutual
def AV.cl : AV → Bool
 | .ptr _ _ | .sl _ _ _ _ _ | .map _ | .yield _ | .wild _ | .rest _ _ _ => false
 | .func fn first capt => clL first && clL capt && (match fn with | .yield _ => false | _ => true)
 | .iface _ v => v.cl
 | .agg cs => clL cs
 | .tup vs => clL vs
 | .fz _ l => clL l
 | .fp cs _ => clL cs
 | _ => true
def clL : List AV → Bool
 | [] => true
 | v :: vs => v.cl && clL vs
end

/- Kinds of rows: 0: any; 1: its room is known; 2: it has no room to spare; 3: nil. -/
/- Nor a row. -/
mutual
def AV.pl : AV → Bool
 | .ptr _ _ | .sl _ _ _ _ _ | .map _ | .yield _ | .fz _ _ | .fp _ _ | .wild _ | .rest _ _ _ => false
 | .func fn first capt => plL first && plL capt && (match fn with | .yield _ => false | _ => true)
 | .iface _ v => v.pl
 | .agg cs => plL cs
 | .tup vs => plL vs
 | _ => true
def plL : List AV → Bool
 | [] => true
 | v :: vs => v.pl && plL vs
end

def AV.dt (v : AV) : Bool := match v with
 | .ptr _ _ | .sl _ _ _ _ _ | .map _ | .yield _ | .rest _ _ _ => true
 | v => v.pl

/- Slots that hold nothing may not be read. -/
def argsOk (e : Env) : List Rand → Bool
 | [] => true
 | .c _ :: l => argsOk e l
 | .t i :: l => (Tr.get e i).isSome && argsOk e l

def wantedV (i : Ins) (e : Env) : Option Bool :=
 match i.guard with
 | none => some true
 | some (d, want) => match Tr.get e d with
  | some (.bool b) => some (b == want)
  | some _ => some false
  | none => none

def resOfV (e : Env) (h : Heap) : RVar → Option AV
 | .tmp t => Tr.get e t
 | .cell a n g => match Tr.get e a with
  | some (.ptr b o) => cond g ((h.loadN b o n).map .agg) (h.load1 b o)
  | _ => none
def resAllV (e : Env) (h : Heap) : List RVar → Option (List AV)
 | [] => some []
 | r :: rs => match resOfV e h r, resAllV e h rs with
  | some v, some vs => some (v :: vs)
  | _, _ => none

def flatCells (l : List AV) : List AV := l.flatMap AV.cells
def allSize (s : Nat) : List AV → Bool
 | [] => true
 | x :: l => Nat.beq x.cells.length s && allSize s l

def sliceKind (k : Nat) (m : Bool) (h mm len : Nat) : Nat :=
 cond (Nat.beq k 3) 3 (cond m (cond (Nat.beq mm h) 2 1) (cond (Nat.beq h len) k (min k 1)))

def sliceV (size : Nat) (lo hi m : Bool) (k : Nat) (l : List AV) (r : List AV) : Option AV :=
 match bounds l.length l.length lo hi m r with
 | some (a, h, mm) => cond (Nat.beq a l.length && Nat.beq k 0 && !Nat.beq a 0) none (cond (allSize size l) (some (.fz (sliceKind k m h mm l.length) ((l.drop a).take (h - a)))) none)
 | none => none

def pV (o : POp) (args : List AV) : Option AV :=
 match o with
 | .eq k => match args with
  | [x, y] => match x with
   | .fz z _ => (match k, y with | .nilsl, .nils => some (.bool (Nat.beq z 3)) | _, _ => none)
   | .fp _ _ => (match k, y with | .nilptr, .nilp => some (.bool false) | _, _ => none)
   | x => match y with
    | .fz z _ => (match k, x with | .nilsl, .nils => some (.bool (Nat.beq z 3)) | _, _ => none)
    | .fp _ _ => (match k, x with | .nilptr, .nilp => some (.bool false) | _, _ => none)
    | y => (eqA k x y).map .bool
  | _ => none
 | .neq k => match args with
  | [x, y] => match x with
   | .fz z _ => (match k, y with | .nilsl, .nils => some (.bool !(Nat.beq z 3)) | _, _ => none)
   | .fp _ _ => (match k, y with | .nilptr, .nilp => some (.bool true) | _, _ => none)
   | x => match y with
    | .fz z _ => (match k, x with | .nilsl, .nils => some (.bool !(Nat.beq z 3)) | _, _ => none)
    | .fp _ _ => (match k, x with | .nilptr, .nilp => some (.bool true) | _, _ => none)
    | y => (eqA k x y).map fun b => .bool !b
  | _ => none
 | .nilchk => l1 args fun x => match x with
  | .fp cs o => some (.fp cs o)
  | .ptr b o => some (.ptr b o)
  | _ => none
 | .faddr off => l1 args fun x => match x with
  | .fp cs o => some (.fp cs (o + off))
  | .ptr b o => some (.ptr b (o + off))
  | _ => none
 | .iaddrS size => l2 args fun x i => match x with
  | .fz _ l => dNat i fun i => match l[i]? with
   | some y => cond (Nat.beq y.cells.length size) (some (.fp y.cells 0)) none
   | none => none
  | .sl b o len _ _ => dNat i fun i => cond (Nat.ble (i + 1) len) (some (.ptr b (o + i * size))) none
  | _ => none
 | .iaddrA size len => l2 args fun x i => match x with
  | .fp cs o => dNat i fun i => cond (Nat.ble (i + 1) len) (some (.fp cs (o + i * size))) none
  | .ptr b o => dNat i fun i => cond (Nat.ble (i + 1) len) (some (.ptr b (o + i * size))) none
  | _ => none
 | .lenS => l1 args fun x => match x with
  | .fz _ l => some (.int .i64 l.length)
  | .sl _ _ len _ _ => some (.int .i64 len)
  | .nils => some (.int .i64 0)
  | .rest _ _ _ => some (.int .i64 0)
  | _ => none
 | .slice size lo hi m => lc args fun x r => match x with
  | .fz k l => sliceV size lo hi m k l r
  | x => sliceF size lo hi m x r
 | o => pIF o args

def rV (o : ROp) (args : List AV) (h : Heap) : Option AV :=
 match o with
 | .load1 => l1 args fun x => match x with
  | .fp cs o => cs[o]?
  | .ptr b o => h.load1 b o
  | _ => none
 | .loadN n => l1 args fun x => match x with
  | .fp cs o => cond (Nat.ble (o + n) cs.length) (some (.agg ((cs.drop o).take n))) none
  | .ptr b o => (h.loadN b o n).map .agg
  | _ => none
 | .toStr => l1 args fun x => match x with
  | .fz _ l => (strBytes l).map .str
  | x => rI .toStr [x] h
 | .entry => none
 | o => rI o args h

def srcV (size : Nat) (h : Heap) (x : AV) : Option (Nat × List AV) :=
 match x with
 | .fz _ l => cond (allSize size l) (some (l.length, flatCells l)) none
 | x => srcCells size h x

def eV (o : EOp) (args : List AV) (h : Heap) : Option (AV × Heap) :=
 match o with
 | .append size bytes => l2 args fun s x => match srcV size h x with
  | none => none
  | some (n, new) => cond (flatL new) (match s with
   | .nils => cond (Nat.beq n 0) (some (.nils, h))
     (cond (Nat.ble (n * bytes) 140737488355328 && Nat.ble n 9223372036854775807) (some (.sl h.next 0 n n true, h.new (.cells new true size))) none)
   | .fz k l => cond (Nat.beq n 0) (some (.fz k l, h)) (cond (Nat.beq k 3)
     (cond (Nat.ble (n * bytes) 140737488355328 && Nat.ble n 9223372036854775807) (some (.sl h.next 0 n n true, h.new (.cells new true size))) none)
     (cond (Nat.beq k 2 && Nat.ble ((l.length + n) * bytes) 140737488355328 && Nat.ble (l.length + n) 9223372036854775807 && allSize size l)
      (some (.sl h.next 0 (l.length + n) (l.length + n) true, h.new (.cells (flatCells l ++ new) true size))) none))
   | .sl b o len cap opn => cond (Nat.beq n 0 && Nat.ble len cap) (some (.sl b o len cap opn, h)) (cond (Nat.ble (len + n) cap)
     ((h.storeN b (o + len * size) new).map fun h => (.sl b o (len + n) cap opn, h))
     (cond (Nat.ble ((len + n) * bytes) 140737488355328 && Nat.ble (len + n) 9223372036854775807)
      (match h.get b, h.loadN b o (len * size) with
      | some (.cells vs wr es), some old => cond opn
        (cond (wr && Nat.beq vs.length (o + len * size) && Nat.beq cap len && Nat.beq es size) (some (.sl h.next 0 (len + n) (len + n) true, (h.del b).new (.cells (old ++ new) true size))) none)
        (some (.sl h.next 0 (len + n) (len + n) true, h.new (.cells (old ++ new) true size)))
      | _, _ => none) none))
   | _ => none) none
 | .copy size => l2 args fun d x => match srcV size h x with
  | none => none
  | some (n, new) => match d with
   | .nils => some (.int .i64 0, h)
   | .sl b o len _ _ => (h.storeN b o (new.take (min n len * size))).map fun h => (.int .i64 (min n len), h)
   | _ => none
 | .range => none
 | .next => none
 | .mdel => none
 | o => eI o args h

def eKV (o : EOp) (args : List AV) (h : Heap) : Option (AV × Heap) :=
 match o, args with
 | .append size bytes, [.sl b o len cap true, x] => match srcV size h x with
  | none => none
  | some (n, new) => match h.get b, h.loadN b o (len * size) with
   | some (.cells vs true es), some old =>
    cond (flatL new && (!Nat.beq n 0 && Nat.ble ((len + n) * bytes) 140737488355328 && Nat.ble (len + n) 9223372036854775807) && (Nat.beq vs.length (o + len * size) && Nat.beq cap len && Nat.beq es size))
     (some (.sl h.next 0 (len + n) (len + n) true, (h.set b (.cells vs false es)).new (.cells (old ++ new) false size))) none
   | _, _ => none
 | _, _ => none

inductive Frz (B : Nat → Prop) (g : Heap) : AV → AV → Prop where
 | clean {v : AV} : v.cl = true → Frz B g v v
 | agg {cs cs' : List AV} : cs.length = cs'.length → (∀ (i : Nat) (x y : AV), cs[i]? = some x → cs'[i]? = some y → Frz B g x y) → Frz B g (.agg cs) (.agg cs')
 | tup {cs cs' : List AV} : cs.length = cs'.length → (∀ (i : Nat) (x y : AV), cs[i]? = some x → cs'[i]? = some y → Frz B g x y) → Frz B g (.tup cs) (.tup cs')
 | iface {t : Nat} {v v' : AV} : Frz B g v v' → Frz B g (.iface t v) (.iface t v')
 | nils : Frz B g .nils (.fz 3 [])
 | func {fn : Fn} {a a' c c' : List AV} : a.length = a'.length → (∀ (i : Nat) (x y : AV), a[i]? = some x → a'[i]? = some y → Frz B g x y) →
   c.length = c'.length → (∀ (i : Nat) (x y : AV), c[i]? = some x → c'[i]? = some y → Frz B g x y) → Frz B g (.func fn a c) (.func fn a' c')
 | ptr {b o base o' : Nat} {cs vs : List AV} {wr : Bool} {es : Nat} : B b → g.get b = some (.cells vs wr es) → o = base + o' → base + cs.length ≤ vs.length →
   (∀ (j : Nat) (c y : AV), cs[j]? = some c → vs[base + j]? = some y → Frz B g y c) → Frz B g (.ptr b o) (.fp cs o')
 | sl {b o len cap : Nat} {op : Bool} {k s : Nat} {l vs : List AV} {wr : Bool} {es : Nat} : B b → g.get b = some (.cells vs wr es) → allSize s l = true → len = l.length → o + l.length * s ≤ vs.length → len ≤ cap → k ≤ 2 →
   (1 ≤ k → op = false) → (2 ≤ k → cap = len) → (∀ (i : Nat) (x : AV) (j : Nat) (c y : AV), l[i]? = some x → x.cells[j]? = some c → vs[o + (i * s + j)]? = some y → Frz B g y c) → Frz B g (.sl b o len cap op) (.fz k l)

def FrzL (B : Nat → Prop) (g : Heap) (l l' : List AV) : Prop := l.length = l'.length ∧ ∀ (i : Nat) (x y : AV), l[i]? = some x → l'[i]? = some y → Frz B g x y

def delAll : List Nat → Heap → Heap
 | [], g => g
 | b :: l, g => delAll l (g.del b)

inductive Ren (p : Nat → Nat) (n : Nat) : AV → AV → Prop where
 | cl {v : AV} : v.cl = true → Ren p n v v
 | ptr {b o : Nat} : b < n → Ren p n (.ptr b o) (.ptr (p b) o)
 | sl {b o len cap : Nat} {op : Bool} : b < n → Ren p n (.sl b o len cap op) (.sl (p b) o len cap op)
 | map {b : Nat} : b < n → Ren p n (.map b) (.map (p b))
 | yield {b : Nat} : b < n → Ren p n (.yield b) (.yield (p b))
 | iface {t : Nat} {v v' : AV} : Ren p n v v' → Ren p n (.iface t v) (.iface t v')
 | agg {cs cs' : List AV} : cs.length = cs'.length → (∀ (i : Nat) (x y : AV), cs[i]? = some x → cs'[i]? = some y → Ren p n x y) → Ren p n (.agg cs) (.agg cs')
 | tup {cs cs' : List AV} : cs.length = cs'.length → (∀ (i : Nat) (x y : AV), cs[i]? = some x → cs'[i]? = some y → Ren p n x y) → Ren p n (.tup cs) (.tup cs')
 | func {fn : Fn} {a a' c c' : List AV} : a.length = a'.length → (∀ (i : Nat) (x y : AV), a[i]? = some x → a'[i]? = some y → Ren p n x y) →
   c.length = c'.length → (∀ (i : Nat) (x y : AV), c[i]? = some x → c'[i]? = some y → Ren p n x y) → Ren p n (.func fn a c) (.func fn a' c')

inductive RenB (p : Nat → Nat) (n : Nat) : Blk → Blk → Prop where
 | cells {vs vs' : List AV} {wr : Bool} {es : Nat} : vs.length = vs'.length → (∀ (i : Nat) (x y : AV), vs[i]? = some x → vs'[i]? = some y → Ren p n x y) → RenB p n (.cells vs wr es) (.cells vs' wr es)
 | map {l l' : List (AV × AV)} {bs : List Nat} {c : Nat} : l.length = l'.length → (∀ (i : Nat) (x y : AV × AV), l[i]? = some x → l'[i]? = some y → Ren p n x.1 y.1 ∧ Ren p n x.2 y.2) → RenB p n (.map l bs c) (.map l' bs c)
 | loop {st : Nat} {pend : Option AX} {e e' : Env} {ps : List Nat} {a b : AC} : (∀ i v, Tr.get e i = some v → ∃ u, Tr.get e' i = some u ∧ Ren p n v u) → RenB p n (.loop st pend e ps a b) (.loop st pend e' ps a b)

structure GC (base : Nat) (p : Nat → Nat) (e1 : Env) (g1 : Heap) (e : Env) (g : Heap) : Prop where
 slots : ∀ i v, Tr.get e i = some v → ∃ u, Tr.get e1 i = some u ∧ Ren p g.next v u
 blks : ∀ b x, g.get b = some x → b < g.next ∧ ∃ y, g1.get (p b) = some y ∧ RenB p g.next x y
 inj : ∀ b c, g.get b ≠ none → g.get c ≠ none → p b = p c → b = c
 fix : ∀ b, b < base → p b = b
 next : base ≤ g.next

def goodArgs (P : Nat → Bool) : List Rand → Bool
 | [] => true
 | .c _ :: l => goodArgs P l
 | .t j :: l => P j && goodArgs P l
def isFp : List AV → Bool
 | [.fp _ _] => true
 | _ => false
def goodStep (P : Nat → Bool) (i : Ins) (m : Mark1) (u : Nat) : Bool := match i.dst with
 | none => P u
 | some d => cond (Nat.beq u d) (match i.op with
  | .p _ => goodArgs P i.args
  | .r _ => goodArgs P i.args && isFp m.vals
  | _ => false) (P u)

def smallV (n : Nat) (v : AV) : Bool := match v with
 | .ptr b _ => Nat.ble (b + 1) n
 | .sl b _ _ _ _ => Nat.ble (b + 1) n
 | v => v.pl
def smallL (n : Nat) : List AV → Bool
 | [] => true
 | v :: l => smallV n v && smallL n l

def winAt (g : Heap) : (Nat → Bool) → List Ins → List Mark1 → Nat → Prop
 | P, i :: _, m :: _, 0 => (goodArgs P i.args || smallL g.next m.vals) = true ∧ m.on = true ∧ ((m.v.dt = true ∧ ∀ o, i.op = .r o → rV o m.vals g = some m.v) ∨ ∃ cs o1, m.vals = [.fp cs o1])
 | P, i :: l, m :: tr, n + 1 => winAt g (goodStep P i m) l tr n
 | _, _, _, _ => False

def winOk (l : List Ins) (win : List (List Nat)) (tr : List Mark1) (g1 : Heap) : Prop :=
 ∀ (k : Nat) i cs m o, l[k]? = some i → win[k]? = some cs → tr[k]? = some m → i.op = .r o → m.on = true → ∀ c ∈ cs, (c ≤ k ∧ winAt (nextHeap (tr.drop c) g1) (fun _ => true) (l.drop c) (tr.drop c) (k - c)) ∨
  (k ≤ c ∧ c < tr.length ∧ ((m.v.dt = true ∧ rV o m.vals (nextHeap (tr.drop c) g1) = some m.v) ∨ ∃ cs o1, m.vals = [.fp cs o1]))

inductive VS (fs : Nat → Option AFunc) (ms : Nat → String → Option Nat) : Nat → Task → Res → Prop where
 | skip {B rd e h} : VS fs ms B (.code rd .skip e h) (.code .normal e h)
 | ops {B rd l e h tr e' h'} : VS fs ms B (.ops rd l e h) (.ops tr e' h') → VS fs ms B (.code rd (.ops l) e h) (.code .normal e' h')
 | dops {B rd l win e h tr e' h'} : win.all (·.isEmpty) = true → VS fs ms B (.ops rd l e h) (.ops tr e' h') → VS fs ms B (.code rd (.dops l win) e h) (.code .normal e' h')
 | dopsW {B rd l win e h tr e' h'} : winOk l win tr h' → VS fs ms B (.ops rd l e h) (.ops tr e' h') → VS fs ms B (.code rd (.dops l win) e h) (.code .normal e' h')
 | seqN {B rd a b e h e1 h1 r} : VS fs ms B (.code rd a e h) (.code .normal e1 h1) → VS fs ms B (.code rd b e1 h1) r → VS fs ms B (.code rd (.seq a b) e h) r
 | seqX {B rd a b e h x e1 h1} : VS fs ms B (.code rd a e h) (.code x e1 h1) → x.normal? = false → VS fs ms B (.code rd (.seq a b) e h) (.code x e1 h1)
 | cond {B rd c a b e h t r} : argsOk e [c] = true → e.ev c = .bool t → VS fs ms B (.code rd (bif t then a else b) e h) r → VS fs ms B (.code rd (.cond c a b) e h) r
 | blockX {B rd id c e h e1 h1} : VS fs ms B (.code rd c e h) (.code (.exit id) e1 h1) → VS fs ms B (.code rd (.block id c) e h) (.code .normal e1 h1)
 | blockN {B rd id c e h x e1 h1} : VS fs ms B (.code rd c e h) (.code x e1 h1) → (∀ i, x = .exit i → i ≠ id) → VS fs ms B (.code rd (.block id c) e h) (.code x e1 h1)
 | loopN {B rd c e h e1 h1 r} : VS fs ms B (.code rd c e h) (.code .normal e1 h1) → VS fs ms B (.code rd (.loop c) e1 h1) r → VS fs ms B (.code rd (.loop c) e h) r
 | loopX {B rd c e h x e1 h1} : VS fs ms B (.code rd c e h) (.code x e1 h1) → x.normal? = false → VS fs ms B (.code rd (.loop c) e h) (.code x e1 h1)
 | exit {B rd id e h} : VS fs ms B (.code rd (.exit id) e h) (.code (.exit id) e h)
 | ret {B rd e h} : VS fs ms B (.code rd .ret e h) (.code .ret e h)
 | rangeFunc {B g ps a b e h f first capt v h2 st x} : argsOk e [g] = true → Env.ev e g = AV.func (.func f) first capt →
   VS fs ms B (.call f (first ++ (.yield h.next :: capt)) (h.new (.loop 0 none e ps a b))) (.val v h2) →
   h2.get h.next = some (.loop st (pendOf x) e ps a b) → st ≠ 1 → (∀ v, x ≠ .panic v) →
   VS fs ms B (.code false (.rangeFunc g ps a b) e h) (.code x e (h2.set h.next (.loop 3 (pendOf x) e ps a b)))
 | frz {B rd c e h i v v' bs r} : Tr.get e i = some v → Frz (· ∈ bs) h v v' → VS fs ms B (.code rd c (Tr.set e i v') (delAll bs h)) r → VS fs ms B (.code rd c e h) r
 | drop {B rd c e h e' r} : (∀ i v, Tr.get e' i = some v → Tr.get e i = some v) → VS fs ms B (.code rd c e' h) r → VS fs ms B (.code rd c e h) r
 | gc {B rd c e h p e' h' r} : GC B p e h e' h' → VS fs ms B (.code rd c e' h') r → VS fs ms B (.code rd c e h) r
 | nil {B rd e h} : VS fs ms B (.ops rd [] e h) (.ops [] e h)
 | off {B rd i l e h tr e' h'} : wantedV i e = some false → VS fs ms B (.ops rd l (e.put i.dst .undef) h) (.ops tr e' h') → VS fs ms B (.ops rd (i :: l) e h) (.ops (⟨h, i.args.map e.ev, .undef, false⟩ :: tr) e' h')
 | on {B rd i l e h v h1 tr e' h'} : wantedV i e = some true → argsOk e i.args = true → VS fs ms B (.op rd i.op (i.args.map e.ev) h) (.val v h1) → VS fs ms B (.ops rd l (e.put i.dst v) h1) (.ops tr e' h') →
   VS fs ms B (.ops rd (i :: l) e h) (.ops (⟨h, i.args.map e.ev, v, true⟩ :: tr) e' h')
 | opP {B rd o vals h v} : pV o vals = some v → VS fs ms B (.op rd (.p o) vals h) (.val v h)
 | opA {B rd o vals h x f} : aI o vals = some (x, f) → VS fs ms B (.op rd (.a o) vals h) (.val (f h.next) (h.new x))
 | opR {B rd o vals h v} : rV o vals h = some v → VS fs ms B (.op rd (.r o) vals h) (.val v h)
 | opE {B rd o vals h v h1} : eV o vals h = some (v, h1) → VS fs ms B (.op rd (.e o) vals h) (.val v h1)
 | opK {B rd o vals h v h1} : eKV o vals h = some (v, h1) → VS fs ms B (.op rd (.e o) vals h) (.val v h1)
 | opCall {B rd fv args h v h1} : VS fs ms B (.callv fv args h) (.val v h1) → VS fs ms B (.op rd .call (fv :: args) h) (.val v h1)
 | opInvoke {B rd name t x args h f v h1} : ms t name = some f → VS fs ms B (.call f (x :: args) h) (.val v h1) → VS fs ms B (.op rd (.invoke name) (.iface t x :: args) h) (.val v h1)
 | callv {B f first capt args h v h1} : VS fs ms B (.call f (first ++ (args ++ capt)) h) (.val v h1) → VS fs ms B (.callv (.func (.func f) first capt) args h) (.val v h1)
 | yield {B L args h pend e ps a b e2 h2 pend2 x e4 h4 st4 pend4} : h.get L = some (.loop 0 pend e ps a b) → args.length = ps.length →
   VS fs ms h.next (.code true a (putAll ps args e) h) (.code .normal e2 h2) → h2.get L = some (.loop 0 pend2 e ps a b) →
   VS fs ms h.next (.code true b e2 (h2.set L (.loop 1 pend2 e ps a b))) (.code x e4 h4) → (∀ v, x ≠ .panic v) → h4.get L = some (.loop st4 pend4 e ps a b) →
   VS fs ms B (.callv (.yield L) args h) (.val (.bool x.normal?) (h4.set L (.loop (bif x.normal? then 0 else 2) (pendOf x) e ps a b)))
 | call {B f args h af x e h1 vs} : fs f = some af → args.length ≤ af.ntmps → VS fs ms h.next (.code false af.body (Env.start af.ntmps args) h) (.code x e h1) → (x = .normal ∨ x = .ret) → resAllV e h1 af.results = some vs →
   VS fs ms B (.call f args h) (.val (resVal vs) h1)
 | rangeFuncP {B g ps a b e h f first capt v h2} : argsOk e [g] = true → Env.ev e g = AV.func (.func f) first capt → VS fs ms B (.call f (first ++ (.yield h.next :: capt)) (h.new (.loop 0 none e ps a b))) (.pan v h2) → VS fs ms B (.code false (.rangeFunc g ps a b) e h) (.code (.panic v) e h2)
 | yieldP {B L args h pend e ps a id A l1 i l2 e2 h2 pend2 e3 h3 tr e4 h4 v h5} : h.get L = some (.loop 0 pend e ps a (.block id (.seq A (.ops (l1 ++ i :: l2))))) → args.length = ps.length →
   VS fs ms h.next (.code true a (putAll ps args e) h) (.code .normal e2 h2) → noRange a = true → h2.get L = some (.loop 0 pend2 e ps a (.block id (.seq A (.ops (l1 ++ i :: l2))))) → noRange A = true →
   VS fs ms h.next (.code true A e2 (h2.set L (.loop 1 pend2 e ps a (.block id (.seq A (.ops (l1 ++ i :: l2))))))) (.code .normal e3 h3) → VS fs ms h.next (.ops true l1 e3 h3) (.ops tr e4 h4) → wantedV i e4 = some true → argsOk e4 i.args = true →
   VS fs ms h.next (.op true i.op (i.args.map e4.ev) h4) (.pan v h5) → VS fs ms B (.callv (.yield L) args h) (.pan v h5)
 /- Panics, with plain values. -/
 | opsP {B rd l1 i l2 e h tr e1 h1 v h2} : VS fs ms B (.ops rd l1 e h) (.ops tr e1 h1) → wantedV i e1 = some true → argsOk e1 i.args = true → VS fs ms B (.op rd i.op (i.args.map e1.ev) h1) (.pan v h2) → VS fs ms B (.code rd (.ops (l1 ++ i :: l2)) e h) (.code (.panic v) e1 h2)
 | dopsP {B rd l1 i win e h tr e1 h1 v h2} : VS fs ms B (.ops rd l1 e h) (.ops tr e1 h1) → (win.all (·.isEmpty) = true ∨ winOk l1 (win.take l1.length) tr h1) → lastOk (l1 ++ [i]) = true → isEff i.op = true → wantedV i e1 = some true → argsOk e1 i.args = true →
   VS fs ms B (.op rd i.op (i.args.map e1.ev) h1) (.pan v h2) → VS fs ms B (.code rd (.dops (l1 ++ [i]) win) e h) (.code (.panic v) e1 h2)
 | opPanic {B rd t x h} : x.pl = true → VS fs ms B (.op rd .panic [.iface t x] h) (.pan (.iface t x) h)
 | opCallP {B rd fv args h v h1} : VS fs ms B (.callv fv args h) (.pan v h1) → VS fs ms B (.op rd .call (fv :: args) h) (.pan v h1)
 | opInvokeP {B rd name t x args h f v h1} : ms t name = some f → VS fs ms B (.call f (x :: args) h) (.pan v h1) → VS fs ms B (.op rd (.invoke name) (.iface t x :: args) h) (.pan v h1)
 | callvP {B f first capt args h v h1} : VS fs ms B (.call f (first ++ (args ++ capt)) h) (.pan v h1) → VS fs ms B (.callv (.func (.func f) first capt) args h) (.pan v h1)
 | callP {B f args h af v e h1} : fs f = some af → args.length ≤ af.ntmps → VS fs ms h.next (.code false af.body (Env.start af.ntmps args) h) (.code (.panic v) e h1) → VS fs ms B (.call f args h) (.pan v h1)
 | callD {B f args h af A l1 dst r rest e1 h1 tr e2 h2 g first capt x e3 h3 ag t l2 rest2 tr2 e4 y e5 h5 vs} : fs f = some af → args.length ≤ af.ntmps → af.body = .seq A (.seq (.ops (l1 ++ [dferI dst r])) rest) →
   VS fs ms h.next (.code false A (Env.start af.ntmps args) h) (.code .normal e1 h1) → noRange A = true → VS fs ms h.next (.ops false l1 e1 h1) (.ops tr e2 h2) → argsOk e2 [r] = true → e2.ev r = .func (.func g) first capt →
   VS fs ms h2.next (.code false rest (e2.put dst .undef) h2) (.code x e3 h3) → (x = .normal ∨ x = .ret ∨ ∃ v, x = .panic v) → (recV x).pl = true →
   fs g = some ag → (first ++ capt).length ≤ ag.ntmps → ag.body = .seq (.ops (rcvI t :: l2)) rest2 → ag.results = [] → noRange rest2 = true →
   VS fs ms h3.next (.ops false l2 ((Env.start ag.ntmps (first ++ capt)).put (some t) (recV x)) h3) (.ops tr2 e4 h3) → plainL l2 = true → VS fs ms h3.next (.code false rest2 e4 h3) (.code y e5 h5) → (y = .normal ∨ y = .ret) →
   resAllV e3 h5 af.results = some vs → VS fs ms B (.call f args h) (.val (resVal vs) h5)
 | pure {B f args h v g v'} : VS fs ms B (.call f args ⟨0, .nil⟩) (.val v g) → clL args = true → Frz (fun _ => True) g v v' → v'.cl = true → VS fs ms B (.call f args h) (.val v' h)
 | frzC {B f args args' h bs v h1} : FrzL (· ∈ bs) h args args' → VS fs ms B (.call f args' (delAll bs h)) (.val v h1) → VS fs ms B (.call f args h) (.val v h1)
 | frzR {B f args h bs v v' h1} : VS fs ms B (.call f args h) (.val v h1) → Frz (· ∈ bs) h1 v v' → VS fs ms B (.call f args h) (.val v' (delAll bs h1))
 | closed {B f args h v h1} : BS fs ms (.call f args ⟨0, .nil⟩) (.val v h1) → plL args = true → v.pl = true → VS fs ms B (.call f args h) (.val v h)
 | view {B f args args' h v g} : FrzL (fun _ => True) h args args' → clL args' = true → VS fs ms B (.call f args' ⟨0, .nil⟩) (.val v g) → v.pl = true → VS fs ms B (.call f args h) (.val v h)
 | viewN {B f args args' h g b o len cap op vs wr es} : FrzL (fun _ => True) h args args' → clL args' = true → VS fs ms B (.call f args' ⟨0, .nil⟩) (.val (.sl b o len cap op) g) → g.get b = some (.cells vs wr es) → plL vs = true →
   VS fs ms B (.call f args h) (.val (.sl h.next o len cap op) (h.new (.cells vs wr es)))

end Ads
end Go.Proofs.Ytlndlbngfgaoeaa
