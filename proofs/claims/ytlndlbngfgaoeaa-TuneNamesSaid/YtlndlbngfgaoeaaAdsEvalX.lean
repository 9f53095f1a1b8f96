/-
  The pure operations once more, one small function each: for the kernel, that copies what it opens.
  An evaluator of big steps for Lean's kernel: continuations, data worked out before it is handed on. It is sound.
  The evaluator: loops' records are kept; comparing; the evaluator itself, and that it is sound.
  The evaluator itself, and that it is sound.
  The evaluator in small pieces: for the kernel, that copies what it opens.
  Tables of compiled functions; what a closed run comes to in the model.
  What code must come to, as a proposition that is worked out from the code: for functions whose arguments are not known.
-/
import Derived.Test.YtlndlbngfgaoeaaAdsMain
set_option linter.unusedSimpArgs false
set_option linter.unusedVariables false
namespace Go.Proofs.Ytlndlbngfgaoeaa
namespace Ads

def l1 {α : Type} (args : List AV) (f : AV → Option α) : Option α := match args with
 | [x] => f x
 | _ => none
def l2 {α : Type} (args : List AV) (f : AV → AV → Option α) : Option α := match args with
 | [x, y] => f x y
 | _ => none
def l3 {α : Type} (args : List AV) (f : AV → AV → AV → Option α) : Option α := match args with
 | [x, y, z] => f x y z
 | _ => none
def lc {α : Type} (args : List AV) (f : AV → List AV → Option α) : Option α := match args with
 | x :: r => f x r
 | _ => none
def dInt {α : Type} (v : AV) (f : IntKind → Int → Option α) : Option α := match v with
 | .int k n => f k n
 | _ => none
def dBool {α : Type} (v : AV) (f : Bool → Option α) : Option α := match v with
 | .bool b => f b
 | _ => none
def dStr {α : Type} (v : AV) (f : List UInt8 → Option α) : Option α := match v with
 | .str s => f s
 | _ => none
def dPtr {α : Type} (v : AV) (f : Nat → Nat → Option α) : Option α := match v with
 | .ptr b o => f b o
 | _ => none
def dAgg {α : Type} (v : AV) (f : List AV → Option α) : Option α := match v with
 | .agg cs => f cs
 | _ => none
def dTup {α : Type} (v : AV) (f : List AV → Option α) : Option α := match v with
 | .tup cs => f cs
 | _ => none
def dSl {α : Type} (v : AV) (f : Nat → Nat → Nat → Nat → Bool → Option α) (g : Option α) : Option α := match v with
 | .sl b o l c op => f b o l c op
 | .nils => g
 | _ => none
def dNat {α : Type} (v : AV) (f : Nat → Option α) : Option α := match asNat v with
 | some n => f n
 | none => none

def binF (op : BinOp) (x y : AV) : Option AV :=
 match x with
 | .int k a => dInt y fun k' b => cond (isShift op) (binShift op k a b) (cond (decide (k = k')) (binInt op k a b) none)
 | .str a => dStr y fun b => binStr op a b
 | _ => none

def sliceF (size : Nat) (lo hi m : Bool) (x : AV) (r : List AV) : Option AV :=
 match x with
 | .wild a => (match bounds 0 0 lo hi m r with
  | some _ => some (.wild a)
  | none => none)
 | .rest b o k => (match bounds 0 0 lo hi m r with
  | some _ => cond m none (some (.rest b o k))
  | none => none)
 | x => dSl x (fun b o len cap opn => match bounds len cap lo hi m r with
  | some (l, h, mm) => cond (Nat.beq mm l && Nat.beq cap mm && (opn && !m && !Nat.beq l 0)) (some (.rest b o (l * size))) (some (.sl b (o + cond (Nat.beq mm l) 0 (l * size)) (h - l) (mm - l) (cond m false opn)))
  | none => none) (match bounds 0 0 lo hi m r with
  | some _ => some .nils
  | none => none)

def pIF (o : POp) (args : List AV) : Option AV :=
 match o with
 | .mov => l1 args some
 | .pick => l3 args fun c a b => dBool c fun c => some (cond c a b)
 | .bin op => l2 args (binF op)
 | .eq k => l2 args fun x y => (eqA k x y).map .bool
 | .neq k => l2 args fun x y => (eqA k x y).map fun b => .bool !b
 | .not => l1 args fun x => dBool x fun b => some (.bool !b)
 | .neg => l1 args fun x => dInt x fun k n => some (.int k (k.wrap (0 - n)))
 | .strid => l1 args fun x => dStr x fun s => some (.str s)
 | .conv k => l1 args fun x => dInt x fun _ n => some (.int k (k.wrap n))
 | .field off n g => l1 args fun x => dAgg x fun cs => part cs off n g
 | .ext i => l1 args fun x => dTup x fun vs => vs[i]?
 | .nilchk => l1 args fun x => dPtr x fun b o => some (.ptr b o)
 | .faddr off => l1 args fun x => dPtr x fun b o => some (.ptr b (o + off))
 | .iaddrS size => l2 args fun x i => dSl x (fun b o len _ _ => dNat i fun i => cond (Nat.ble (i + 1) len) (some (.ptr b (o + i * size))) none) none
 | .iaddrA size len => l2 args fun x i => dPtr x fun b o => dNat i fun i => cond (Nat.ble (i + 1) len) (some (.ptr b (o + i * size))) none
 | .idxA size len g => l2 args fun x i => dAgg x fun cs => dNat i fun i => cond (Nat.ble (i + 1) len) (part cs (i * size) size g) none
 | .idxS => l2 args fun x i => dStr x fun s => dNat i fun i => (s[i]?).map fun b => .int .u8 b.toNat
 | .build zeros parts => (fill zeros parts args).map .agg
 | .mkiface t => l1 args fun x => some (.iface t x)
 | .mkfunc fn n => some (.func fn (args.take n) (args.drop n))
 | .lenS => l1 args fun x => match x with
  | .wild _ => some (.int .i64 0)
  | .rest _ _ _ => some (.int .i64 0)
  | x => dSl x (fun _ _ len _ _ => some (.int .i64 len)) (some (.int .i64 0))
 | .lenStr => l1 args fun x => dStr x fun s => some (.int .i64 s.length)
 | .lenA n => some (.int .i64 n)
 | .mx => lc args fun x r => fold2 max2 x r
 | .mn => lc args fun x r => fold2 min2 x r
 | .slice size lo hi m => lc args fun x r => sliceF size lo hi m x r
 | .sliceStr lo hi => lc args fun x r => dStr x fun s => match bounds s.length s.length lo hi false r with
  | some (l, h, _) => some (.str ((s.take h).drop l))
  | none => none
 | .sliceArr size len lo hi m => lc args fun x r => dPtr x fun b o => match bounds len len lo hi m r with
  | some (l, h, mm) => some (.sl b (o + cond (Nat.beq mm l) 0 (l * size)) (h - l) (mm - l) false)
  | none => none
 | .tassert t ok zero => l1 args fun x => match x with
  | .iface u v => cond (Nat.beq u t) (some (cond ok (.tup [v, .bool true]) v)) (cond ok (some (.tup [zero, .bool false])) none)
  | .nili => cond ok (some (.tup [zero, .bool false])) none
  | _ => none

theorem binF_eq (op : BinOp) (x y : AV) : binF op x y = binA op x y := by
 cases x <;> cases y <;> rfl

theorem pIF_eq (o : POp) (args : List AV) : pIF o args = pI o args := by
 cases o
 case build z ps => rfl
 case mkfunc fn n => rfl
 case lenA n => rfl
 case bin op => rcases args with _ | ⟨x, _ | ⟨y, _ | ⟨z, r⟩⟩⟩ <;> first | rfl | exact binF_eq op x y
 case mx => cases args <;> rfl
 case mn => cases args <;> rfl
 case slice size lo hi m => rcases args with _ | ⟨x, r⟩ <;> first | rfl | (cases x <;> rfl)
 case sliceStr lo hi => rcases args with _ | ⟨x, r⟩ <;> first | rfl | (cases x <;> rfl)
 case sliceArr size len lo hi m => rcases args with _ | ⟨x, r⟩ <;> first | rfl | (cases x <;> rfl)
 case pick => rcases args with _ | ⟨x, _ | ⟨y, _ | ⟨z, _ | ⟨u, r⟩⟩⟩⟩ <;> first | rfl | (cases x <;> rfl)
 case tassert t ok zero => rcases args with _ | ⟨x, _ | ⟨y, r⟩⟩ <;> first | rfl | (cases x <;> rfl)
 all_goals (rcases args with _ | ⟨x, _ | ⟨y, _ | ⟨z, r⟩⟩⟩ <;> first | rfl | (cases x <;> rfl) | (cases x <;> cases y <;> rfl))

end Ads
end Go.Proofs.Ytlndlbngfgaoeaa

set_option linter.unusedSimpArgs false
set_option linter.unusedVariables false
namespace Go.Proofs.Ytlndlbngfgaoeaa
namespace Ads

/- Forcing. -/
section
variable {α : Type}
def fNat (n : Nat) (k : Nat → α) : α := match n with
 | 0 => k 0
 | m + 1 => k (Nat.succ m)
theorem fNat_eq (n : Nat) (k : Nat → α) : fNat n k = k n := by cases n <;> rfl
def fInt (n : Int) (k : Int → α) : α := match n with
 | .ofNat m => fNat m fun m => k (.ofNat m)
 | .negSucc m => fNat m fun m => k (.negSucc m)
theorem fInt_eq (n : Int) (k : Int → α) : fInt n k = k n := by cases n <;> simp [fInt, fNat_eq]
def fBool (b : Bool) (k : Bool → α) : α := match b with
 | true => k true
 | false => k false
theorem fBool_eq (b : Bool) (k : Bool → α) : fBool b k = k b := by cases b <;> rfl
def fS (v : AV) (k : AV → α) : α := match v with
 | .bool b => fBool b fun b => k (.bool b)
 | .int kd n => fInt n fun n => k (.int kd n)
 | .ptr b o => fNat b fun b => fNat o fun o => k (.ptr b o)
 | .sl b o l c op => fNat b fun b => fNat o fun o => fNat l fun l => fNat c fun c => fBool op fun op => k (.sl b o l c op)
 | .map b => fNat b fun b => k (.map b)
 | .yield b => fNat b fun b => k (.yield b)
 | .str s => k (.str s)
 | .nilp => k .nilp
 | .nils => k .nils
 | .wild a => k (.wild a)
 | .rest b o j => fNat b fun b => fNat o fun o => fNat j fun j => k (.rest b o j)
 | .nilm => k .nilm
 | .func a b c => k (.func a b c)
 | .nilf => k .nilf
 | .iface t v => k (.iface t v)
 | .nili => k .nili
 | .agg cs => k (.agg cs)
 | .tup cs => k (.tup cs)
 | .fz f l => k (.fz f l)
 | .fp cs o => k (.fp cs o)
theorem fS_eq (v : AV) (k : AV → α) : fS v k = k v := by cases v <;> simp [fS, fNat_eq, fInt_eq, fBool_eq]
def fL : List AV → (List AV → α) → α
 | [], k => k []
 | v :: vs, k => fS v fun v => fL vs fun vs => k (v :: vs)
theorem fL_eq : ∀ (l : List AV) (k : List AV → α), fL l k = k l
 | [], k => rfl
 | v :: vs, k => by simp [fL, fS_eq, fL_eq vs]
def fB : List UInt8 → (List UInt8 → α) → α
 | [], k => k []
 | v :: vs, k => fB vs fun vs => k (v :: vs)
theorem fB_eq : ∀ (l : List UInt8) (k : List UInt8 → α), fB l k = k l
 | [], k => rfl
 | v :: vs, k => by simp [fB, fB_eq vs]
def fV (v : AV) (k : AV → α) : α := match v with
 | .agg cs => fL cs fun cs => k (.agg cs)
 | .tup cs => fL cs fun cs => k (.tup cs)
 | .iface t v => fS v fun v => k (.iface t v)
 | .str s => fB s fun s => k (.str s)
 | .func f a b => fL a fun a => fL b fun b => k (.func f a b)
 | v => fS v k
theorem fV_eq (v : AV) (k : AV → α) : fV v k = k v := by cases v <;> simp [fV, fS_eq, fL_eq, fB_eq]
def putF {β : Type} (x : Option β) : Nat → Tr β → Nat → (Tr β → α) → α
 | 0, t, _, k => k t
 | f + 1, .nil, n, k => cond (Nat.beq n 0) (k (.node .nil x .nil))
   (cond (Nat.beq (n % 2) 1) (putF x f .nil (n / 2) fun l => k (.node l none .nil)) (putF x f .nil (n / 2 - 1) fun r => k (.node .nil none r)))
 | f + 1, .node l v r, n, k => cond (Nat.beq n 0) (k (.node l x r))
   (cond (Nat.beq (n % 2) 1) (putF x f l (n / 2) fun l => k (.node l v r)) (putF x f r (n / 2 - 1) fun r => k (.node l v r)))
theorem putF_eq {β : Type} (x : Option β) : ∀ (f : Nat) (t : Tr β) (n : Nat) (k : Tr β → α), putF x f t n k = k (Tr.put x f t n)
 | 0, t, n, k => rfl
 | f + 1, .nil, n, k => by
  simp only [putF, Tr.put]
  cases Nat.beq n 0
  ·cases Nat.beq (n % 2) 1 <;> simp [putF_eq x f, Tr.left, Tr.right, Tr.val]
  ·rfl
 | f + 1, .node l v r, n, k => by
  simp only [putF, Tr.put]
  cases Nat.beq n 0
  ·cases Nat.beq (n % 2) 1 <;> simp [putF_eq x f, Tr.left, Tr.right, Tr.val]
  ·rfl
end

def argsF {α : Type} : List AV → Nat → Env → (Env → α) → α
 | [], _, e, k => k e
 | v :: vs, i, e, k => putF (some v) (i + 1) e i fun e => argsF vs (i + 1) e k
theorem argsF_eq {α : Type} : ∀ (l : List AV) (i : Nat) (e : Env) (k : Env → α), argsF l i e k = k (Env.args l i e)
 | [], i, e, k => rfl
 | v :: vs, i, e, k => by simp [argsF, putF_eq, argsF_eq vs, Env.args, Tr.set]

def startF {α : Type} (n : Nat) (args : List AV) (k : Env → α) : α := argsF args 0 (Tr.full (Nat.log2 n + 1)) k
theorem startF_eq {α : Type} (n : Nat) (args : List AV) (k : Env → α) : startF n args k = k (Env.start n args) := argsF_eq _ _ _ _

def fC {α : Type} (v : AV) (k : AV → α) : α := match v with
 | .bool b => k (.bool b)
 | .int kd n => k (.int kd n)
 | .ptr b o => k (.ptr b o)
 | .sl b o l c op => k (.sl b o l c op)
 | .map b => k (.map b)
 | .yield b => k (.yield b)
 | .str s => k (.str s)
 | .nilp => k .nilp
 | .nils => k .nils
 | .wild a => k (.wild a)
 | .rest b o j => k (.rest b o j)
 | .nilm => k .nilm
 | .func a b c => k (.func a b c)
 | .nilf => k .nilf
 | .iface t v => k (.iface t v)
 | .nili => k .nili
 | .agg cs => k (.agg cs)
 | .tup cs => k (.tup cs)
 | .fz f l => k (.fz f l)
 | .fp cs o => k (.fp cs o)
theorem fC_eq {α : Type} (v : AV) (k : AV → α) : fC v k = k v := by cases v <;> rfl

def setF {α β : Type} (t : Tr β) (n : Nat) (x : β) (k : Tr β → α) : α := putF (some x) (n + 1) t n k
theorem setF_eq {α β : Type} (t : Tr β) (n : Nat) (x : β) (k : Tr β → α) : setF t n x k = k (t.set n x) := putF_eq _ _ _ _ _

def putE {α : Type} (e : Env) (d : Option Nat) (v : AV) (k : Env → α) : α := match d with
 | some d => setF e d v k
 | none => k e
theorem putE_eq {α : Type} (e : Env) (d : Option Nat) (v : AV) (k : Env → α) : putE e d v k = k (e.put d v) := by
 cases d <;> simp [putE, Env.put, setF_eq]

def newF {α : Type} (h : Heap) (x : Blk) (k : Heap → α) : α :=
 match x with
 | .cells vs wr es => fL vs fun vs => setF h.m h.next (.cells vs wr es) fun m => fNat (h.next + 1) fun n => k ⟨n, m⟩
 | x => setF h.m h.next x fun m => fNat (h.next + 1) fun n => k ⟨n, m⟩
theorem newF_eq {α : Type} (h : Heap) (x : Blk) (k : Heap → α) : newF h x k = k (h.new x) := by
 cases x <;> simp [newF, fL_eq, setF_eq, fNat_eq, Heap.new]

def bsetF {α : Type} (h : Heap) (b : Nat) (x : Blk) (k : Heap → α) : α :=
 match x with
 | .cells vs wr es => fL vs fun vs => setF h.m b (.cells vs wr es) fun m => k ⟨h.next, m⟩
 | x => setF h.m b x fun m => k ⟨h.next, m⟩
theorem bsetF_eq {α : Type} (h : Heap) (b : Nat) (x : Blk) (k : Heap → α) : bsetF h b x k = k (h.set b x) := by
 cases x <;> simp [bsetF, fL_eq, setF_eq, Heap.set]

def delF {α : Type} (h : Heap) (b : Nat) (k : Heap → α) : α := putF none (b + 1) h.m b fun m => k ⟨h.next, m⟩
theorem delF_eq {α : Type} (h : Heap) (b : Nat) (k : Heap → α) : delF h b k = k (h.del b) := by
 simp [delF, putF_eq, Heap.del, Tr.del]

def storeF (h : Heap) (b o : Nat) (xs : List AV) (k : Heap → Bool) : Bool :=
 match h.get b with
 | some (.cells vs true es) => cond (Nat.ble (o + xs.length) vs.length && flatL xs) (bsetF h b (.cells (Heap.splice vs o xs) true es) k) false
 | _ => false
theorem storeF_eq (h : Heap) (b o : Nat) (xs : List AV) (k : Heap → Bool) : storeF h b o xs k = match h.storeN b o xs with | some h => k h | none => false := by
 unfold storeF Heap.storeN
 cases hg : h.get b with
 | none => rfl
 | some x =>
  cases x with
  | cells vs wr es =>
   cases wr with
   | true => simp only []; cases (Nat.ble (o + xs.length) vs.length && flatL xs) <;> simp [bsetF_eq]
   | false => rfl
  | _ => rfl

def eIF (o : EOp) (args : List AV) (h : Heap) (k : AV → Heap → Bool) : Bool :=
 match o, args with
 | .store n, [.ptr b o, v] => cond (Nat.beq v.cells.length n) (storeF h b o v.cells fun h => k .undef h) false
 | .append size bytes, [s, x] => match srcCells size h x with
  | none => false
  | some (n, new) => cond (flatL new) (match s with
   | .nils => cond (Nat.beq n 0) (k .nils h)
     (cond (Nat.ble (n * bytes) 140737488355328 && Nat.ble n 9223372036854775807) (newF h (.cells new true size) fun h1 => k (.sl h.next 0 n n true) h1) false)
   | .sl b o len cap opn => cond (Nat.beq n 0 && Nat.ble len cap) (k (.sl b o len cap opn) h) (cond (Nat.ble (len + n) cap)
     (storeF h b (o + len * size) new fun h => k (.sl b o (len + n) cap opn) h)
     (cond (Nat.ble ((len + n) * bytes) 140737488355328 && Nat.ble (len + n) 9223372036854775807)
      (match h.get b, h.loadN b o (len * size) with
      | some (.cells vs wr es), some old => cond opn
        (cond (wr && Nat.beq vs.length (o + len * size) && Nat.beq cap len && Nat.beq es size)
         (delF h b fun h2 => newF h2 (.cells (old ++ new) true size) fun h1 => k (.sl h.next 0 (len + n) (len + n) true) h1) false)
        (newF h (.cells (old ++ new) true size) fun h1 => k (.sl h.next 0 (len + n) (len + n) true) h1)
      | _, _ => false) false))
   | _ => false) false
 | .copy size, [d, x] => match d, srcCells size h x with
  | .nils, some _ => k (.int .i64 0) h
  | .sl b o len _ _, some (n, new) => storeF h b o (new.take (min n len * size)) fun h => k (.int .i64 (min n len)) h
  | _, _ => false
 | .clear zs, [d] => match d with
  | .nils => k .undef h
  | .sl b o len _ _ => storeF h b o (zerosN zs len) fun h => k .undef h
  | _ => false
 | .ins, [.map b, kv, v] => match h.get b with
  | some (.map es bs c) => match findKey kv es with
   | some r => bsetF h b (.map (putKey kv v es) (bornI r bs c) (clkI r c)) fun h => k .undef h
   | none => false
  | _ => false
 | .range, [.map b] => match h.get b with
  | some (.map _ _ c) => newF h (.iter b c [] c) fun h1 => k (.ptr h.next 0) h1
  | _ => false
 | .next, [.ptr it 0] => match h.get it with
  | some (.iter m _ seen last) => match h.get m with
   | some (.map _ bs _) => cond (iterOk seen last bs && (leftB seen bs).isEmpty) (delF h it fun h1 => k (.tup [.bool false]) h1) false
   | _ => false
  | _ => false
 | .mdel, [.map b, kv] => match h.get b with
  | some (.map es bs c) => match findKey kv es with
   | some _ => bsetF h b (.map (delKey kv es) (bornD kv es bs) c) fun h => k (.tup []) h
   | none => false
  | _ => false
 | _, _ => false

theorem eIF_sound {o : EOp} {args : List AV} {h : Heap} {k : AV → Heap → Bool} (hh : eIF o args h k = true) : ∃ v h1, eI o args h = some (v, h1) ∧ k v h1 = true := by
 unfold eIF at hh
 split at hh
 ·rename_i n b o v
  simp only [eI]
  cases hb : Nat.beq v.cells.length n with
  | false => simp [hb] at hh
  | true =>
   simp only [hb, cond_true, storeF_eq] at hh ⊢
   cases hs : h.storeN b o v.cells with
   | none => simp [hs] at hh
   | some h1 => rw [hs] at hh; exact ⟨.undef, h1, rfl, hh⟩
 ·rename_i size bytes s x
  simp only [eI]
  cases hsc : srcCells size h x with
  | none => simp [hsc] at hh
  | some p =>
   obtain ⟨n, new⟩ := p
   simp only [hsc] at hh ⊢
   cases hf : flatL new with
   | false => simp [hf] at hh
   | true =>
    simp only [hf, cond_true] at hh ⊢
    split at hh
    ·cases h0 : Nat.beq n 0 with
     | true => rw [h0] at hh; exact ⟨_, _, rfl, hh⟩
     | false =>
      rw [h0] at hh
      simp only [cond_false, newF_eq] at hh ⊢
      cases hc : (Nat.ble (n * bytes) 140737488355328 && Nat.ble n 9223372036854775807) with
      | false => simp [hc] at hh
      | true => rw [hc] at hh; exact ⟨_, _, rfl, hh⟩
    ·rename_i b o len cap opn
     cases hz0 : (Nat.beq n 0 && Nat.ble len cap) with
     | true => simp only [hz0, cond_true] at hh ⊢; exact ⟨_, _, rfl, hh⟩
     | false =>
     simp only [hz0, cond_false] at hh ⊢
     cases hle : Nat.ble (len + n) cap with
     | true =>
      simp only [hle, cond_true, storeF_eq] at hh ⊢
      cases hs : h.storeN b (o + len * size) new with
      | none => simp [hs] at hh
      | some h1 => rw [hs] at hh; exact ⟨_, _, rfl, hh⟩
     | false =>
      simp only [hle, cond_false] at hh ⊢
      cases hc : (Nat.ble ((len + n) * bytes) 140737488355328 && Nat.ble (len + n) 9223372036854775807) with
      | false => simp [hc] at hh
      | true =>
       simp only [hc, cond_true] at hh ⊢
       split at hh
       ·rename_i vs wr es old hg hl
        rw [hg, hl]
        simp only
        cases opn with
        | false => simp only [cond_false, newF_eq] at hh ⊢; exact ⟨_, _, rfl, hh⟩
        | true =>
         simp only [cond_true] at hh ⊢
         cases hw : (wr && Nat.beq vs.length (o + len * size) && Nat.beq cap len && Nat.beq es size) with
         | false => simp [hw] at hh
         | true =>
          simp only [hw, cond_true, delF_eq, newF_eq] at hh ⊢
          exact ⟨_, _, rfl, hh⟩
       ·simp at hh
    ·simp at hh
 ·rename_i size d x
  simp only [eI]
  split at hh
  ·rename_i q hq
   rw [hq]
   exact ⟨_, _, rfl, hh⟩
  ·rename_i b o len cap opn n new hq
   rw [hq]
   simp only [storeF_eq] at hh ⊢
   cases hs : h.storeN b o (new.take (min n len * size)) with
   | none => simp [hs] at hh
   | some h1 => rw [hs] at hh; exact ⟨_, _, rfl, hh⟩
  ·simp at hh
 ·rename_i zs d
  simp only [eI]
  split at hh
  ·exact ⟨_, _, rfl, hh⟩
  ·rename_i b o len cap opn
   simp only [storeF_eq] at hh ⊢
   cases hs : h.storeN b o (zerosN zs len) with
   | none => simp [hs] at hh
   | some h1 => rw [hs] at hh; exact ⟨_, _, rfl, hh⟩
  ·simp at hh
 ·rename_i b kv v
  simp only [eI]
  split at hh
  ·rename_i es bs c hg
   rw [hg]
   split at hh
   ·rename_i r hr
    simp only [hr, bsetF_eq] at hh ⊢
    exact ⟨_, _, rfl, hh⟩
   ·simp at hh
  ·simp at hh
 ·rename_i b
  simp only [eI]
  split at hh
  ·rename_i es bs c hg
   rw [hg]
   simp only [newF_eq] at hh ⊢
   exact ⟨_, _, rfl, hh⟩
  ·simp at hh
 ·rename_i it
  simp only [eI]
  split at hh
  ·rename_i m since seen last hg
   rw [hg]
   simp only
   split at hh
   ·rename_i es bs c hm
    rw [hm]
    simp only
    cases hc : (iterOk seen last bs && (leftB seen bs).isEmpty) with
    | false => simp [hc] at hh
    | true =>
     simp only [hc, cond_true, delF_eq] at hh ⊢
     exact ⟨_, _, rfl, hh⟩
   ·simp at hh
  ·simp at hh
 ·rename_i b kv
  simp only [eI]
  split at hh
  ·rename_i es bs c hg
   rw [hg]
   split at hh
   ·rename_i r hr
    simp only [hr, bsetF_eq] at hh ⊢
    exact ⟨_, _, rfl, hh⟩
   ·simp at hh
  ·simp at hh
 ·simp at hh

end Ads
end Go.Proofs.Ytlndlbngfgaoeaa

set_option linter.unusedSimpArgs false
set_option linter.unusedVariables false
namespace Go.Proofs.Ytlndlbngfgaoeaa
namespace Ads

theorem cond_some {α : Type} {c : Bool} {x : α} {y : α} (h : cond c (some x) none = some y) : x = y := by
 cases c with
 | false => simp at h
 | true => simpa using h
/- Records of loops keep what they were made of. -/
def LK (h h' : Heap) : Prop := h.next ≤ h'.next ∧ ∀ L st pend e ps a b, L < h.next → h.get L = some (.loop st pend e ps a b) → ∃ st' pend', h'.get L = some (.loop st' pend' e ps a b)

theorem LK.refl (h : Heap) : LK h h := ⟨Nat.le_refl _, fun L st pend e ps a b _ hg => ⟨st, pend, hg⟩⟩
theorem LK.trans {h h1 h2 : Heap} (x : LK h h1) (y : LK h1 h2) : LK h h2 := by
 refine ⟨Nat.le_trans x.1 y.1, fun L st pend e ps a b hL hg => ?_⟩
 obtain ⟨st', pend', hg'⟩ := x.2 L st pend e ps a b hL hg
 exact y.2 L st' pend' e ps a b (Nat.lt_of_lt_of_le hL x.1) hg'
theorem LK.new (h : Heap) (x : Blk) : LK h (h.new x) :=
 ⟨by simp, fun L st pend e ps a b hL hg => ⟨st, pend, by rw [Heap.get_new, if_neg (by omega)]; exact hg⟩⟩
theorem LK.set {h : Heap} {b : Nat} {x y : Blk} (hb : h.get b = some x) (hx : ∀ st pend e ps a c, x ≠ .loop st pend e ps a c) : LK h (h.set b y) := by
 refine ⟨Nat.le_refl _, fun L st pend e ps a c hL hg => ⟨st, pend, ?_⟩⟩
 rw [Heap.get_set, if_neg]
 ·exact hg
 ·rintro rfl
  rw [hb] at hg
  cases hg
  exact hx _ _ _ _ _ _ rfl
theorem LK.del {h : Heap} {b : Nat} {x : Blk} (hb : h.get b = some x) (hx : ∀ st pend e ps a c, x ≠ .loop st pend e ps a c) : LK h (h.del b) := by
 refine ⟨Nat.le_refl _, fun L st pend e ps a c hL hg => ⟨st, pend, ?_⟩⟩
 rw [Heap.get_del, if_neg]
 ·exact hg
 ·rintro rfl
  rw [hb] at hg
  cases hg
  exact hx _ _ _ _ _ _ rfl
theorem LK.store {h h' : Heap} {b o : Nat} {xs : List AV} (hs : h.storeN b o xs = some h') : LK h h' := by
 unfold Heap.storeN at hs
 split at hs
 ·rename_i vs es hg
  cases hc : (Nat.ble (o + xs.length) vs.length && flatL xs) with
  | false => simp [hc] at hs
  | true =>
   simp only [hc, cond_true, Option.some.injEq] at hs
   subst hs
   exact LK.set hg (by simp)
 ·simp at hs

theorem LK.eff {o : EOp} {args : List AV} {h h' : Heap} {v : AV} (he : eI o args h = some (v, h')) : LK h h' := by
 unfold eI at he
 split at he
 ·rename_i n b o v
  cases hb : Nat.beq v.cells.length n with
  | false => simp [hb] at he
  | true =>
   simp only [hb, cond_true, Option.map_eq_some_iff, Prod.mk.injEq] at he
   obtain ⟨h1, hs, _, rfl⟩ := he
   exact LK.store hs
 ·rename_i size bytes s x
  split at he
  ·simp at he
  ·rename_i n new hsc
   cases hf : flatL new with
   | false => simp [hf] at he
   | true =>
    simp only [hf, cond_true] at he
    split at he
    ·cases h0 : Nat.beq n 0 with
     | true =>
      simp only [h0, cond_true, Option.some.injEq, Prod.mk.injEq] at he
      obtain ⟨_, rfl⟩ := he
      exact LK.refl _
     | false =>
      simp only [h0, cond_false] at he
      cases hc : (Nat.ble (n * bytes) 140737488355328 && Nat.ble n 9223372036854775807) with
      | false => simp [hc] at he
      | true =>
       simp only [hc, cond_true, Option.some.injEq, Prod.mk.injEq] at he
       obtain ⟨_, rfl⟩ := he
       exact LK.new _ _
    ·rename_i b o len cap opn
     cases hz0 : (Nat.beq n 0 && Nat.ble len cap) with
     | true =>
      simp only [hz0, cond_true, Option.some.injEq, Prod.mk.injEq] at he
      obtain ⟨_, rfl⟩ := he
      exact LK.refl _
     | false =>
     simp only [hz0, cond_false] at he
     cases hle : Nat.ble (len + n) cap with
     | true =>
      simp only [hle, cond_true, Option.map_eq_some_iff, Prod.mk.injEq] at he
      obtain ⟨h1, hs, _, rfl⟩ := he
      exact LK.store hs
     | false =>
      simp only [hle, cond_false] at he
      cases hc : (Nat.ble ((len + n) * bytes) 140737488355328 && Nat.ble (len + n) 9223372036854775807) with
      | false => simp [hc] at he
      | true =>
       simp only [hc, cond_true] at he
       split at he
       ·rename_i vs wr es old hg hl
        cases opn with
        | false =>
         simp only [cond_false, Option.some.injEq, Prod.mk.injEq] at he
         obtain ⟨_, rfl⟩ := he
         exact LK.new _ _
        | true =>
         simp only [cond_true] at he
         cases hw : (wr && Nat.beq vs.length (o + len * size) && Nat.beq cap len && Nat.beq es size) with
         | false => simp [hw] at he
         | true =>
          simp only [hw, cond_true, Option.some.injEq, Prod.mk.injEq] at he
          obtain ⟨_, rfl⟩ := he
          exact (LK.del hg (by simp)).trans (LK.new _ _)
       ·simp at he
    ·cases h0 : Nat.beq n 0 with
     | true =>
      simp only [h0, cond_true, Option.some.injEq, Prod.mk.injEq] at he
      obtain ⟨_, rfl⟩ := he
      exact LK.refl _
     | false =>
      simp only [h0, cond_false] at he
      cases hc : (Nat.ble (n * bytes) 140737488355328 && Nat.ble n 9223372036854775807) with
      | false => simp [hc] at he
      | true =>
       simp only [hc, cond_true, Option.some.injEq, Prod.mk.injEq] at he
       obtain ⟨_, rfl⟩ := he
       exact LK.new _ _
    ·simp at he
 ·rename_i size d x
  split at he
  ·simp only [Option.some.injEq, Prod.mk.injEq] at he
   obtain ⟨_, rfl⟩ := he
   exact LK.refl _
  ·simp only [Option.some.injEq, Prod.mk.injEq] at he
   obtain ⟨_, rfl⟩ := he
   exact LK.refl _
  ·simp only [Option.map_eq_some_iff, Prod.mk.injEq] at he
   obtain ⟨h1, hs, _, rfl⟩ := he
   exact LK.store hs
  ·simp at he
 ·rename_i zeros d
  split at he
  ·simp only [Option.some.injEq, Prod.mk.injEq] at he
   obtain ⟨_, rfl⟩ := he
   exact LK.refl _
  ·simp only [Option.map_eq_some_iff, Prod.mk.injEq] at he
   obtain ⟨h1, hs, _, rfl⟩ := he
   exact LK.store hs
  ·simp at he
 ·split at he
  ·rename_i hg
   split at he
   ·simp only [Option.some.injEq, Prod.mk.injEq] at he
    obtain ⟨_, rfl⟩ := he
    exact LK.set hg (by simp)
   ·simp at he
  ·simp at he
 ·split at he
  ·simp only [Option.some.injEq, Prod.mk.injEq] at he
   obtain ⟨_, rfl⟩ := he
   exact LK.new _ _
  ·simp at he
 ·split at he
  ·rename_i hg
   split at he
   ·obtain ⟨_, rfl⟩ := Prod.mk.inj (cond_some he)
    exact LK.del hg (by simp)
   ·simp at he
  ·simp at he
 ·split at he
  ·rename_i hg
   split at he
   ·simp only [Option.some.injEq, Prod.mk.injEq] at he
    obtain ⟨_, rfl⟩ := he
    exact LK.set hg (by simp)
   ·simp at he
  ·simp at he
 ·simp only [Option.some.injEq, Prod.mk.injEq] at he
  obtain ⟨_, rfl⟩ := he
  exact LK.new _ _
 ·simp at he

def Task.heap : Task → Heap
 | .code _ _ _ h => h
 | .ops _ _ _ h => h
 | .op _ _ _ h => h
 | .callv _ _ h => h
 | .call _ _ h => h
 | .any _ _ _ h => h
def Res.heap : Res → Heap
 | .post _ => ⟨0, .nil⟩
 | .code _ _ h => h
 | .ops _ _ h => h
 | .val _ h => h
 | .pan _ h => h

theorem LK.effK {o : EOp} {args : List AV} {h h' : Heap} {v : AV} (he : eK o args h = some (v, h')) : LK h h' := by
 unfold eK at he
 split at he
 ·split at he
  ·simp at he
  ·split at he
   ·rename_i hg _
    have he := cond_some he
    cases he
    exact (LK.set hg (by simp)).trans (LK.new _ _)
   ·simp at he
 ·simp at he

theorem LK.over {h g g' : Heap} (x : LK g g') (s : SubH g h) : LK h (over2 h g g') := by
 refine ⟨by rw [← s.1]; exact x.1, fun L st pend e ps a b hL hg => ?_⟩
 have hget : (over2 h g g').get L = if (g.get L).isSome = true ∨ h.next ≤ L then g'.get L else h.get L := by
  show (overN h g g' g'.next).get L = _
  rw [overN_get]
  have : L < g'.next := by have := x.1; have := s.1; omega
  simp only [this, true_and]
 rw [hget]
 split
 ·rename_i hc
  rcases hc with hc | hc
  ·cases hy : g.get L with
   | none => rw [hy] at hc; simp at hc
   | some y =>
    have := s.2 L y hy
    rw [hg] at this
    cases this
    exact x.2 L st pend e ps a b (by rw [s.1]; exact hL) hy
  ·omega
 ·exact ⟨st, pend, hg⟩

theorem LK.overU {h g u h2 : Heap} (x : LK g u) (s : SubH g h) (hn : h2.next = u.next) (h1 : ∀ b, b < h.next → h2.get b = if (g.get b).isSome = true then u.get b else h.get b) : LK h h2 := by
 refine ⟨by rw [hn, ← s.1]; exact x.1, fun L st pend e ps a b hL hg => ?_⟩
 rw [h1 L hL]
 split
 ·rename_i hc
  cases hy : g.get L with
  | none => rw [hy] at hc; simp at hc
  | some y =>
   have := s.2 L y hy
   rw [hg] at this
   cases this
   exact x.2 L st pend e ps a b (by rw [s.1]; exact hL) hy
 ·exact ⟨st, pend, hg⟩
theorem LK.forget {h H h2 : Heap} (x : LK h H) (s : SubH h2 H) (ho : ∀ b, b < h.next → h.get b ≠ none → h2.get b = H.get b) : LK h h2 :=
 ⟨by rw [s.1]; exact x.1, fun L st pend e ps a b hL hg => by rw [ho L hL (by rw [hg]; simp)]; exact x.2 L st pend e ps a b hL hg⟩

def Keep (t : Task) (r : Res) : Prop := match r with
 | .post Q => ∃ x e h', Q x e h' ∧ LK t.heap h'
 | r => LK t.heap r.heap
theorem Keep.of {t t' : Task} {r : Res} (x : LK t.heap t'.heap) (k : Keep t' r) : Keep t r := by
 cases r with
 | post Q => obtain ⟨a, b, c, q, l⟩ := k; exact ⟨a, b, c, q, x.trans l⟩
 | _ => exact LK.trans x k
theorem nextL_heap {h : Heap} {it m since c : Nat} {seen : List Nat} {p : AV × Heap} : ∀ {bs : List Nat} {es : List (AV × AV)}, p ∈ nextL h it m since seen c bs es → ∃ x, p.2 = h.set it x
 | [], es, hp => by simp [nextL] at hp
 | b :: bs, [], hp => by simp [nextL] at hp
 | b :: bs, (k, v) :: es, hp => by
  simp only [nextL] at hp
  cases hb : hasN b seen with
  | true => rw [hb] at hp; exact nextL_heap hp
  | false =>
   rw [hb] at hp
   rcases List.mem_cons.1 hp with rfl | hp
   ·exact ⟨_, rfl⟩
   ·exact nextL_heap hp
theorem LK.nextC {args : List AV} {h : Heap} {cs : List (AV × Heap)} {p : AV × Heap} (hc : nextC args h = some cs) (hp : p ∈ cs) : LK h p.2 := by
 unfold Ads.nextC at hc
 split at hc
 ·split at hc
  ·rename_i hg
   split at hc
   ·have := cond_some hc
    subst this
    obtain ⟨x, hx⟩ := nextL_heap hp
    rw [hx]
    exact LK.set hg (by simp)
   ·simp at hc
  ·simp at hc
 ·simp at hc
theorem BS.keepG {fs : Nat → Option AFunc} {ms : Nat → String → Option Nat} {t : Task} {r : Res} (h : BS fs ms t r) : Keep t r := by
 induction h with
 | skip => exact LK.refl _
 | ops _ ih => exact ih
 | dops _ _ ih => exact ih
 | seqN _ _ ih1 ih2 => exact Keep.of (t' := .code _ _ _ _) ih1 ih2
 | seqX _ _ ih => exact ih
 | cond _ _ ih => exact Keep.of (LK.refl _) ih
 | blockX _ ih => exact ih
 | blockN _ _ ih => exact ih
 | loopN _ _ ih1 ih2 => exact Keep.of (t' := .code _ _ _ _) ih1 ih2
 | loopX _ _ ih => exact ih
 | exit => exact LK.refl _
 | ret => exact LK.refl _
 | @rangeFunc g ps a b e h f first capt v h2 st x hg hc hl hst hx ih =>
  have h1 := (LK.new h (.loop 0 none e ps a b)).trans ih
  refine ⟨h1.1, fun L st pend e ps a b hL hgl => ?_⟩
  obtain ⟨st', pend', hg'⟩ := h1.2 L st pend e ps a b hL hgl
  have hL' : L < h.next := hL
  exact ⟨st', pend', by simp only [Res.heap]; rw [Heap.get_set, if_neg (by omega)]; exact hg'⟩
 | nil => exact LK.refl _
 | off _ _ ih => exact ih
 | on _ _ _ ih1 ih2 => exact ih1.trans ih2
 | opP _ => exact LK.refl _
 | opA _ => exact LK.new _ _
 | opR _ => exact LK.refl _
 | opE h => exact LK.eff h
 | opK h => exact LK.effK h
 | opCall _ ih => exact ih
 | opInvoke _ _ ih => exact ih
 | callv _ ih => exact ih
 | @yield L args h pend e ps a b e2 h2 pend2 x e4 h4 st4 pend4 hg hlen hs1 hg2 hs2 hx hg4 ih1 ih2 =>
  show LK h (h4.set L _)
  replace ih1 : LK h h2 := ih1
  replace ih2 : LK (h2.set L (.loop 1 pend2 e ps a b)) h4 := ih2
  refine ⟨Nat.le_trans ih1.1 ih2.1, fun L0 st0 pend0 e0 ps0 a0 b0 hL0 hg0 => ?_⟩
  by_cases hl : L0 = L
  ·subst hl
   rw [hg] at hg0
   cases hg0
   exact ⟨_, _, by rw [Heap.get_set, if_pos rfl]⟩
  ·obtain ⟨s1, p1, g1⟩ := ih1.2 L0 st0 pend0 e0 ps0 a0 b0 hL0 hg0
   obtain ⟨s2, p2, g2⟩ := ih2.2 L0 s1 p1 e0 ps0 a0 b0 (Nat.lt_of_lt_of_le hL0 ih1.1) (by rw [Heap.get_set, if_neg hl]; exact g1)
   exact ⟨s2, p2, by rw [Heap.get_set, if_neg hl]; exact g2⟩
 | call _ _ _ _ _ ih => exact ih
 | fresh _ _ _ _ => exact LK.refl _
 | frameU hs _ hn h1 _ ih => exact ih.overU hs hn h1
 | forget hs ho _ ih => exact ih.forget hs ho
 | rangeFuncP _ _ ih => exact (LK.new _ _).trans ih
 | @yieldP L args h pend e ps a id A l1 i l2 e2 h2 pend2 e3 h3 tr e4 h4 v h5 hg hlen hs1 hnx hg2 hnA hsA hl hw ho ih1 ihA ihl iho =>
  replace ih1 : LK h h2 := ih1
  have ihB : LK (h2.set L (.loop 1 pend2 e ps a (.block id (.seq A (.ops (l1 ++ i :: l2)))))) h5 := LK.trans ihA (LK.trans ihl iho)
  refine ⟨Nat.le_trans ih1.1 ihB.1, fun L0 st0 pend0 e0 ps0 a0 b0 hL0 hg0 => ?_⟩
  obtain ⟨s1, p1, g1⟩ := ih1.2 L0 st0 pend0 e0 ps0 a0 b0 hL0 hg0
  have hlt : L0 < h2.next := Nat.lt_of_lt_of_le hL0 ih1.1
  by_cases hl : L0 = L
  ·subst hl
   rw [hg2] at g1
   cases g1
   exact ihB.2 L0 _ _ _ _ _ _ hlt (by rw [Heap.get_set, if_pos rfl])
  ·exact ihB.2 L0 s1 p1 e0 ps0 a0 b0 hlt (by rw [Heap.get_set, if_neg hl]; exact g1)
 | opsP _ _ _ ih1 ih2 => exact ih1.trans ih2
 | dopsP _ _ _ _ _ _ ih1 ih2 => exact ih1.trans ih2
 | opPanic => exact LK.refl _
 | opCallP _ ih => exact ih
 | opInvokeP _ _ ih => exact ih
 | callvP _ ih => exact ih
 | callP _ _ _ ih => exact ih
 | callD _ _ _ _ _ _ _ _ _ _ _ _ _ _ _ _ _ _ _ ihA ih1 ih2 _ ih3 => exact ((ihA.trans ih1).trans ih2).trans ih3
 | anyOne _ hq ih => exact ⟨_, _, _, hq, ih⟩
 | @anySeq rd a b e h R Q _ hx _ iha ihb =>
  obtain ⟨x, e1, h1, hr, l⟩ := iha
  cases hn : x.normal? with
  | false => exact ⟨x, e1, h1, hx _ _ _ hr hn, l⟩
  | true =>
   have : x = .normal := by cases x <;> simp [AX.normal?] at hn; rfl
   subst this
   obtain ⟨x2, e2, h2, hq, l2⟩ := ihb e1 h1 hr
   exact ⟨x2, e2, h2, hq, LK.trans l l2⟩
 | anyCond _ _ ih => exact ih
 | anyBlock _ hx ih =>
  obtain ⟨x, e1, h1, hr, l⟩ := ih
  exact ⟨_, e1, h1, hx _ _ _ hr, l⟩
 | @anyLoop rd c e h R Q _ hx _ iha ihb =>
  obtain ⟨x, e1, h1, hr, l⟩ := iha
  cases hn : x.normal? with
  | false => exact ⟨x, e1, h1, hx _ _ _ hr hn, l⟩
  | true =>
   have : x = .normal := by cases x <;> simp [AX.normal?] at hn; rfl
   subst this
   obtain ⟨x2, e2, h2, hq, l2⟩ := ihb e1 h1 hr
   exact ⟨x2, e2, h2, hq, LK.trans l l2⟩
 | @anyNext rd dst args l e h cs Q T E H hc hne hl hq ihl =>
  cases cs with
  | nil => exact absurd rfl hne
  | cons p cs => exact ⟨_, _, _, hq p List.mem_cons_self, LK.trans (LK.nextC hc List.mem_cons_self) (ihl p List.mem_cons_self)⟩
 | callAny _ _ _ hQ ih =>
  obtain ⟨x, e1, h1, hq, l⟩ := ih
  obtain ⟨_, _, s, ho⟩ := hQ x e1 h1 hq
  exact LK.forget l s ho
theorem BS.keep {fs : Nat → Option AFunc} {ms : Nat → String → Option Nat} {t : Task} {r : Res} (h : BS fs ms t r) (hr : ∀ Q, r ≠ .post Q := by simp) : LK t.heap r.heap := by
 have := h.keepG
 cases r with
 | post Q => exact absurd rfl (hr Q)
 | _ => exact this

theorem BS.call_val {fs : Nat → Option AFunc} {ms : Nat → String → Option Nat} {f : Nat} {args : List AV} {h : Heap} {r : Res} (hb : BS fs ms (.call f args h) r) : (∃ v h1, r = .val v h1) ∨ ∃ v h1, r = .pan v h1 := by
 cases hb with
 | call _ _ _ _ _ => exact .inl ⟨_, _, rfl⟩
 | fresh _ _ _ => exact .inl ⟨_, _, rfl⟩
 | frameU _ _ _ _ _ => exact .inl ⟨_, _, rfl⟩
 | forget _ _ _ => exact .inl ⟨_, _, rfl⟩
 | callP _ _ _ => exact .inr ⟨_, _, rfl⟩
 | callAny _ _ _ _ => exact .inl ⟨_, _, rfl⟩
 | callD _ _ _ _ _ _ _ _ _ _ _ _ _ _ _ _ _ _ _ => exact .inl ⟨_, _, rfl⟩

end Ads
end Go.Proofs.Ytlndlbngfgaoeaa

set_option linter.unusedSimpArgs false
set_option linter.unusedVariables false
namespace Go.Proofs.Ytlndlbngfgaoeaa
namespace Ads

/- Comparing. -/
mutual
def AV.same : AV → AV → Bool
 | .bool a, .bool b => a == b
 | .int k n, .int k' m => cond (decide (k = k')) (decide (n = m)) false
 | .str s, .str t => s == t
 | .ptr b o, .ptr b' o' => Nat.beq b b' && Nat.beq o o'
 | .nilp, .nilp => true
 | .sl b o l c op, .sl b' o' l' c' op' => Nat.beq b b' && Nat.beq o o' && Nat.beq l l' && Nat.beq c c' && op == op'
 | .nils, .nils => true
 | .map b, .map b' => Nat.beq b b'
 | .nilm, .nilm => true
 | .func f a c, .func f' a' c' => decide (f = f') && sameL a a' && sameL c c'
 | .nilf, .nilf => true
 | .yield b, .yield b' => Nat.beq b b'
 | .iface t v, .iface t' v' => Nat.beq t t' && v.same v'
 | .nili, .nili => true
 | .agg cs, .agg cs' => sameL cs cs'
 | .tup cs, .tup cs' => sameL cs cs'
 | .rest b o k, .rest b' o' k' => Nat.beq b b' && Nat.beq o o' && Nat.beq k k'
 | _, _ => false
def sameL : List AV → List AV → Bool
 | [], [] => true
 | v :: vs, u :: us => v.same u && sameL vs us
 | _, _ => false
end

mutual
theorem AV.same_eq : ∀ {v u : AV}, v.same u = true → v = u := by
 intro v u h
 cases v <;> cases u <;> simp only [AV.same, Bool.and_eq_true, beq_iff_eq, Bool.false_eq_true, decide_eq_true_eq] at h <;>
  first
  | rfl
  | (obtain rfl := h; rfl)
  | (have := Nat.eq_of_beq_eq_true h; subst this; rfl)
  | (have h1 := Nat.eq_of_beq_eq_true h.1; have h2 := Nat.eq_of_beq_eq_true h.2; subst h1 h2; rfl)
  | (obtain ⟨⟨⟨⟨h1, h2⟩, h3⟩, h4⟩, h5⟩ := h; have := Nat.eq_of_beq_eq_true h1; have := Nat.eq_of_beq_eq_true h2; have := Nat.eq_of_beq_eq_true h3; have := Nat.eq_of_beq_eq_true h4; subst_vars; rfl)
  | (obtain ⟨⟨h1, h2⟩, h3⟩ := h; have := Nat.eq_of_beq_eq_true h1; have := Nat.eq_of_beq_eq_true h2; have := Nat.eq_of_beq_eq_true h3; subst_vars; rfl)
  | (rename_i k n k' m; by_cases hk : k = k' <;> simp [hk] at h; subst hk h; rfl)
  | (rw [sameL_eq h])
  | (obtain ⟨⟨h1, h2⟩, h3⟩ := h; rw [h1, sameL_eq h2, sameL_eq h3])
  | (obtain ⟨h1, h2⟩ := h; rw [Nat.eq_of_beq_eq_true h1, AV.same_eq h2])
theorem sameL_eq : ∀ {v u : List AV}, sameL v u = true → v = u := by
 intro v u h
 cases v <;> cases u <;> simp only [sameL, Bool.and_eq_true, Bool.false_eq_true] at h
 ·rfl
 ·rw [AV.same_eq h.1, sameL_eq h.2]
end

def readsB (u : Nat → Heap) : List Ins → List (List Nat) → List Mark1 → Bool
 | x :: l, cs :: win, m :: tr => cond (match x.op with
   | .r o => cond m.on (cs.all fun c => match rI o m.vals (u c) with | some v => v.same m.v | none => false) true
   | _ => true) (readsB u l win tr) false
 | _, _, _ => true

theorem readsB_sound {u : Nat → Heap} : ∀ {l : List Ins} {win : List (List Nat)} {tr : List Mark1}, readsB u l win tr = true → readsOk u l win tr
 | [], _, _, _ => by simp [readsOk]
 | _ :: _, [], _, _ => by simp [readsOk]
 | _ :: _, _ :: _, [], _ => by simp [readsOk]
 | x :: l, cs :: win, m :: tr, h => by
  simp only [readsB] at h
  generalize hb : (match x.op with
   | .r o => cond m.on (cs.all fun c => match rI o m.vals (u c) with | some v => v.same m.v | none => false) true
   | _ => true) = b at h
  cases b with
  | false => simp at h
  | true =>
   simp only [cond_true] at h
   simp only [readsOk]
   refine ⟨?_, readsB_sound h⟩
   split
   ·rename_i o ho
    intro hon c hc
    rw [ho] at hb
    simp only [hon, cond_true, List.all_eq_true] at hb
    have := hb c hc
    split at this
    ·rename_i v hv; rw [hv, AV.same_eq this]
    ·simp at this
   ·trivial

def lastI : List Ins → Option (List Ins × Ins)
 | [] => none
 | [i] => some ([], i)
 | i :: l => match lastI l with
  | some (l1, j) => some (i :: l1, j)
  | none => none
theorem lastI_eq : ∀ {l l1 : List Ins} {i : Ins}, lastI l = some (l1, i) → l = l1 ++ [i]
 | [], l1, i, h => by simp [lastI] at h
 | [j], l1, i, h => by simp only [lastI, Option.some.injEq, Prod.mk.injEq] at h; obtain ⟨rfl, rfl⟩ := h; rfl
 | j :: k :: l, l1, i, h => by
  simp only [lastI] at h
  split at h
  ·rename_i l2 i2 h2
   simp only [Option.some.injEq, Prod.mk.injEq] at h
   obtain ⟨rfl, rfl⟩ := h
   rw [lastI_eq (l := k :: l) h2]
   rfl
  ·simp at h

def splitD (c : AC) : Option (AC × List Ins × Option Nat × Nat × AC) :=
 match c with
 | .seq A d => match d with
  | .seq o rest => match o with
   | .ops l => match lastI l with
    | some (l1, i) => match i.op with
     | .bad => match i with
      | ⟨dst, none, .bad, [.c (.bool true), .t a, .t b, .t c]⟩ => cond (Nat.beq a b && Nat.beq a c) (some (A, l1, dst, a, rest)) none
      | _ => none
     | _ => none
    | none => none
   | _ => none
  | _ => none
 | _ => none
theorem splitD_eq {c A : AC} {l1 : List Ins} {dst : Option Nat} {a : Nat} {rest : AC} (h : splitD c = some (A, l1, dst, a, rest)) : c = .seq A (.seq (.ops (l1 ++ [dferI dst (.t a)])) rest) := by
 unfold splitD at h
 split at h
 ·split at h
  ·split at h
   ·split at h
    ·rename_i hl
     split at h
     ·split at h
      ·rename_i dst2 a2 b2 c2 _
       cases hb : (Nat.beq a2 b2 && Nat.beq a2 c2) with
       | false => rw [hb] at h; simp at h
       | true =>
        rw [hb] at h
        simp only [cond_true, Option.some.injEq, Prod.mk.injEq] at h
        obtain ⟨rfl, rfl, rfl, rfl, rfl⟩ := h
        simp only [Bool.and_eq_true] at hb
        have h1 := Nat.eq_of_beq_eq_true hb.1
        have h2 := Nat.eq_of_beq_eq_true hb.2
        subst h1 h2
        rw [lastI_eq hl]
        rfl
      ·simp at h
     ·simp at h
    ·simp at h
   ·simp at h
  ·simp at h
 ·simp at h
def splitR (c : AC) : Option (Nat × List Ins × AC) :=
 match c with
 | .seq (.ops (⟨some t, none, .bad, [.c (.bool false), .c (.bool false), .c (.bool false), .c (.bool false)]⟩ :: l2)) rest2 => some (t, l2, rest2)
 | _ => none
theorem splitR_eq {c : AC} {t : Nat} {l2 : List Ins} {rest2 : AC} (h : splitR c = some (t, l2, rest2)) : c = .seq (.ops (rcvI t :: l2)) rest2 := by
 unfold splitR at h
 split at h
 ·simp only [Option.some.injEq, Prod.mk.injEq] at h
  obtain ⟨rfl, rfl, rfl⟩ := h
  rfl
 ·simp at h
def isNilL {α : Type} : List α → Bool
 | [] => true
 | _ => false
def isOut : AX → Bool
 | .exit _ => false
 | _ => true

abbrev Rec := Task → (Res → Bool) → Bool
def evDopsP (ev : Rec) (rd : Bool) (l : List Ins) (win : List (List Nat)) (e : Env) (h : Heap) (k : Res → Bool) : Bool := match lastI l with
 | some (l1, i) => ev (.ops rd l1 e h) fun r => match r with
  | .ops tr e1 h1 => cond (wantedA i e1) (cond (readsB (heapU l1 tr h1) l1 (win.take l1.length) tr && lastOk l && isEff i.op) (ev (.op rd i.op (i.args.map e1.ev) h1) fun r => match r with
   | .pan v h2 => k (.code (.panic v) e1 h2)
   | _ => false) false) false
  | _ => false
 | none => false
def evYieldP (ev : Rec) (a b : AC) (e : Env) (h : Heap) (k : Res → Bool) : Bool := match b with
 | .block _ (.seq A (.ops l)) => cond (noRange a && noRange A) (ev (.code true A e h) fun r => match r with
  | .code .normal e1 h1 => ev (.ops true l e1 h1) fun r => match r with
   | .code (.panic v) _ h2 => k (.pan v h2)
   | _ => false
  | _ => false) false
 | _ => false
def evPan (vals : List AV) (h : Heap) (k : Res → Bool) : Bool := match vals with
 | [.iface t x] => k (.pan (.iface t x) h)
 | _ => false
def evDf (fs : Nat → Option AFunc) (ev : Rec) (d : AC × List Ins × Option Nat × Nat × AC) (af : AFunc) (args : List AV) (h : Heap) (k : Res → Bool) : Bool := match d with
 | (A, l1, dst, a, rest) => cond (Nat.ble args.length af.ntmps && noRange A) (startF af.ntmps args fun e0 => ev (.code false A e0 h) fun r => match r with
  | .code .normal e1 h1 => ev (.ops false l1 e1 h1) fun r => match r with
   | .ops tr e2 h2 => match e2.ev (.t a) with
    | .func (.func g) first capt => ev (.code false rest (e2.put dst .undef) h2) fun r => match r with
     | .code x e3 h3 => cond (isOut x) (match fs g with
      | some ag => match splitR ag.body with
       | some (t, l2, rest2) => cond (Nat.ble (first ++ capt).length ag.ntmps && isNilL ag.results && noRange rest2 && plainL l2)
        (ev (.ops false l2 ((Env.start ag.ntmps (first ++ capt)).put (some t) (recV x)) h3) fun r => match r with
        | .ops tr2 e4 h4 => ev (.code false rest2 e4 h4) fun r => match r with
         | .code y e5 h5 => match y with
          | .normal | .ret => match resAll e3 h5 af.results with
           | some vs => k (.val (resVal vs) h5)
           | none => false
          | _ => false
         | _ => false
        | _ => false) false
       | none => false
      | none => false) false
     | _ => false
    | _ => false
   | _ => false
  | _ => false) false

abbrev Orc := Nat → List AV → Heap → Option (AV × Heap)
def noOrc : Orc := fun _ _ _ => none
def OrcOk (fs : Nat → Option AFunc) (ms : Nat → String → Option Nat) (orc : Orc) : Prop := ∀ f args h v h1, orc f args h = some (v, h1) → BS fs ms (.call f args h) (.val v h1)
theorem noOrc_ok {fs : Nat → Option AFunc} {ms : Nat → String → Option Nat} : OrcOk fs ms noOrc := fun f args h v h1 hh => by simp [noOrc] at hh

section
variable (fs : Nat → Option AFunc) (ms : Nat → String → Option Nat) (orc : Orc)

def ev : Nat → Task → (Res → Bool) → Bool
 | 0, _, _ => false
 | n + 1, t, k => match t with
  | .code rd c e h => match c with
   | .skip => k (.code .normal e h)
   | .ops l => ev n (.ops rd l e h) fun r => match r with
    | .ops tr e' h' => k (.code .normal e' h')
    | .code (.panic v) e1 h1 => k (.code (.panic v) e1 h1)
    | _ => false
   | .dops l win => ev n (.ops rd l e h) fun r => match r with
    | .ops tr e' h' => cond (readsB (heapU l tr h') l win tr) (k (.code .normal e' h')) false
    | .code (.panic _) _ _ => evDopsP (ev n) rd l win e h k
    | _ => false
   | .seq a b => ev n (.code rd a e h) fun r => match r with
    | .code .normal e1 h1 => ev n (.code rd b e1 h1) k
    | .code x e1 h1 => k (.code x e1 h1)
    | _ => false
   | .cond c a b => match e.ev c with
    | .bool t => ev n (.code rd (cond t a b) e h) k
    | _ => false
   | .block id c => ev n (.code rd c e h) fun r => match r with
    | .code (.exit i) e1 h1 => cond (Nat.beq i id) (k (.code .normal e1 h1)) (k (.code (.exit i) e1 h1))
    | .code x e1 h1 => k (.code x e1 h1)
    | _ => false
   | .loop c => ev n (.code rd c e h) fun r => match r with
    | .code .normal e1 h1 => ev n (.code rd (.loop c) e1 h1) k
    | .code x e1 h1 => k (.code x e1 h1)
    | _ => false
   | .exit id => k (.code (.exit id) e h)
   | .ret => k (.code .ret e h)
   | .rangeFunc g ps a b => match rd, e.ev g with
    | false, .func (.func f) first capt => newF h (.loop 0 none e ps a b) fun h1 => ev n (.call f (first ++ (.yield h.next :: capt)) h1) fun r => match r with
     | .val v h2 => match h2.get h.next with
      | some (.loop st none _ _ _ _) => cond (Nat.beq st 1) false (bsetF h2 h.next (.loop 3 none e ps a b) fun h3 => k (.code .normal e h3))
      | some (.loop st (some (.exit id)) _ _ _ _) => cond (Nat.beq st 1) false (bsetF h2 h.next (.loop 3 (some (.exit id)) e ps a b) fun h3 => k (.code (.exit id) e h3))
      | some (.loop st (some .ret) _ _ _ _) => cond (Nat.beq st 1) false (bsetF h2 h.next (.loop 3 (some .ret) e ps a b) fun h3 => k (.code .ret e h3))
      | _ => false
     | .pan v h2 => k (.code (.panic v) e h2)
     | _ => false
    | _, _ => false
   | .bad => false
  | .ops rd l e h => match l with
   | [] => k (.ops [] e h)
   | i :: l => cond (wantedA i e)
     (ev n (.op rd i.op (i.args.map e.ev) h) fun r => match r with
      | .val v h1 => putE e i.dst v fun e1 => ev n (.ops rd l e1 h1) fun r => match r with
       | .ops tr e' h' => k (.ops (⟨h, i.args.map e.ev, v, true⟩ :: tr) e' h')
       | .code (.panic v) e1 h2 => k (.code (.panic v) e1 h2)
       | _ => false
      | .pan v h2 => k (.code (.panic v) e h2)
      | _ => false)
     (putE e i.dst .undef fun e1 => ev n (.ops rd l e1 h) fun r => match r with
      | .ops tr e' h' => k (.ops (⟨h, i.args.map e.ev, .undef, false⟩ :: tr) e' h')
      | .code (.panic v) e1 h2 => k (.code (.panic v) e1 h2)
      | _ => false)
  | .op rd o vals h => match o with
   | .p o => match pI o vals with
    | some v => fV v fun v => k (.val v h)
    | none => false
   | .a o => match aI o vals with
    | some (x, f) => fV (f h.next) fun v => newF h x fun h1 => k (.val v h1)
    | none => false
   | .r o => match rI o vals h with
    | some v => fV v fun v => k (.val v h)
    | none => false
   | .e o => eIF o vals h fun v h1 => fV v fun v => k (.val v h1)
   | .call => match vals with
    | fv :: args => ev n (.callv fv args h) k
    | [] => false
   | .invoke name => match vals with
    | .iface t x :: args => match ms t name with
     | some f => ev n (.call f (x :: args) h) k
     | none => false
    | _ => false
   | .panic => evPan vals h k
   | _ => false
  | .callv fv args h => match fv with
   | .func (.func f) first capt => ev n (.call f (first ++ (args ++ capt)) h) k
   | .yield L => match h.get L with
    | some (.loop 0 pend e ps a b) => cond (Nat.beq args.length ps.length && Nat.ble (L + 1) h.next)
     (ev n (.code true a (putAll ps args e) h) fun r => match r with
      | .code .normal e2 h2 => match h2.get L with
       | some (.loop 0 pend2 _ _ _ _) => bsetF h2 L (.loop 1 pend2 e ps a b) fun h3 => ev n (.code true b e2 h3) fun r => match r with
        | .code (.panic _) _ _ => evYieldP (ev n) a b e2 h3 k
        | .code x e4 h4 => bsetF h4 L (.loop (cond x.normal? 0 2) (pendOf x) e ps a b) fun h5 => k (.val (.bool x.normal?) h5)
        | _ => false
       | _ => false
      | _ => false) false
    | _ => false
   | _ => false
  | .call f args h => match orc f args h with
   | some (v, h1) => k (.val v h1)
   | none => match fs f with
   | some af => match splitD af.body with
    | none => cond (Nat.ble args.length af.ntmps) (startF af.ntmps args fun e0 => ev n (.code false af.body e0 h) fun r => match r with
     | .code x e h1 => match x with
      | .normal | .ret => match resAll e h1 af.results with
       | some vs => fV (resVal vs) fun v => k (.val v h1)
       | none => false
      | .panic v => k (.pan v h1)
      | _ => false
     | _ => false) false
    | some d => evDf fs (ev n) d af args h k
   | none => false
  | .any .. => false
end

section
variable {fs : Nat → Option AFunc} {ms : Nat → String → Option Nat} {orc : Orc}

theorem plain_heap : ∀ {l : List Ins} {rd : Bool} {e : Env} {h : Heap} {tr : List Mark1} {e' : Env} {h' : Heap}, plainL l = true → BS fs ms (.ops rd l e h) (.ops tr e' h') → h' = h
 | [], rd, e, h, tr, e', h', _, hb => by cases hb; rfl
 | i :: l, rd, e, h, tr, e', h', hp, hb => by
  simp only [plainL, Bool.and_eq_true] at hp
  cases hb with
  | off hw hl => exact plain_heap hp.2 hl
  | on hw ho hl =>
   obtain ⟨d, gd, op, as⟩ := i
   cases op <;> cases gd <;> simp at hp
   cases ho
   exact plain_heap hp hl

def EvR (fs : Nat → Option AFunc) (ms : Nat → String → Option Nat) (t : Task) (r : Res) : Prop := match t with
 | .ops rd l e h => match r with
  | .ops tr e' h' => BS fs ms (.ops rd l e h) (.ops tr e' h')
  | .code (.panic v) e1 h2 => ∃ l1 i l2 tr h1, l = l1 ++ i :: l2 ∧ BS fs ms (.ops rd l1 e h) (.ops tr e1 h1) ∧ wantedA i e1 = true ∧ BS fs ms (.op rd i.op (i.args.map e1.ev) h1) (.pan v h2)
  | _ => False
 | t => BS fs ms t r

theorem ev_sound (ho : OrcOk fs ms orc) : ∀ (n : Nat) (t : Task) (k : Res → Bool), ev fs ms orc n t k = true → ∃ r, EvR fs ms t r ∧ k r = true
 | 0, t, k, h => by simp [ev] at h
 | n + 1, t, k, h => by
  have iho : ∀ rd l e hp k, ev fs ms orc n (.ops rd l e hp) k = true → ∃ r, EvR fs ms (.ops rd l e hp) r ∧ k r = true := fun rd l e hp k => ev_sound ho n _ k
  have ihc : ∀ rd c e hp k, ev fs ms orc n (.code rd c e hp) k = true → ∃ r, BS fs ms (.code rd c e hp) r ∧ k r = true := fun rd c e hp k => ev_sound ho n _ k
  have ihp : ∀ rd o vals hp k, ev fs ms orc n (.op rd o vals hp) k = true → ∃ r, BS fs ms (.op rd o vals hp) r ∧ k r = true := fun rd o vals hp k => ev_sound ho n _ k
  have ihv : ∀ fv args hp k, ev fs ms orc n (.callv fv args hp) k = true → ∃ r, BS fs ms (.callv fv args hp) r ∧ k r = true := fun fv args hp k => ev_sound ho n _ k
  have ihf : ∀ f args hp k, ev fs ms orc n (.call f args hp) k = true → ∃ r, BS fs ms (.call f args hp) r ∧ k r = true := fun f args hp k => ev_sound ho n _ k
  unfold ev at h
  split at h
  ·rename_i rd c e hp
   show ∃ r, BS fs ms (.code rd c e hp) r ∧ k r = true
   split at h
   ·exact ⟨_, .skip, h⟩
   ·obtain ⟨r, hr, hk⟩ := iho _ _ _ _ _ h
    split at hk
    ·exact ⟨_, .ops hr, hk⟩
    ·obtain ⟨l1, i, l2, tr, h1, rfl, g1, g2, g3⟩ := hr
     exact ⟨_, .opsP g1 g2 g3, hk⟩
    ·simp at hk
   ·rename_i l win
    obtain ⟨r, hr, hk⟩ := iho _ _ _ _ _ h
    split at hk
    ·rename_i tr e' h'
     cases hb : readsB (heapU l tr h') l win tr with
     | false => simp [hb] at hk
     | true => rw [hb] at hk; exact ⟨_, .dops hr (readsB_sound hb), hk⟩
    ·unfold evDopsP at hk
     split at hk
     ·rename_i l1 i hl
      have := lastI_eq hl
      subst this
      obtain ⟨r2, hr2, hk2⟩ := iho _ _ _ _ _ hk
      split at hk2
      ·rename_i tr e1 h1
       cases hw : wantedA i e1 with
       | false => rw [hw] at hk2; simp at hk2
       | true =>
        rw [hw] at hk2
        simp only [cond_true] at hk2
        cases hb : (readsB (heapU l1 tr h1) l1 (win.take l1.length) tr && lastOk (l1 ++ [i]) && isEff i.op) with
        | false => rw [hb] at hk2; simp at hk2
        | true =>
         rw [hb] at hk2
         simp only [cond_true] at hk2
         simp only [Bool.and_eq_true] at hb
         obtain ⟨r3, hr3, hk3⟩ := ihp _ _ _ _ _ hk2
         split at hk3
         ·exact ⟨_, .dopsP hr2 (readsB_sound hb.1.1) hb.1.2 hb.2 hw hr3, hk3⟩
         ·simp at hk3
      ·simp at hk2
     ·simp at hk
    ·simp at hk
   ·obtain ⟨r, hr, hk⟩ := ihc _ _ _ _ _ h
    split at hk
    ·obtain ⟨r', hr', hk'⟩ := ihc _ _ _ _ _ hk
     exact ⟨_, .seqN hr hr', hk'⟩
    ·rename_i x e1 h1 hne
     refine ⟨_, .seqX hr ?_, hk⟩
     cases x <;> simp_all [AX.normal?]
    ·simp at hk
   ·split at h
    ·rename_i t ht
     obtain ⟨r, hr, hk⟩ := ihc _ _ _ _ _ h
     exact ⟨_, .cond ht hr, hk⟩
    ·simp at h
   ·rename_i id c
    obtain ⟨r, hr, hk⟩ := ihc _ _ _ _ _ h
    split at hk
    ·rename_i i e1 h1
     cases hb : Nat.beq i id with
     | true =>
      rw [hb] at hk
      have := Nat.eq_of_beq_eq_true hb
      subst this
      exact ⟨_, .blockX hr, hk⟩
     | false =>
      rw [hb] at hk
      refine ⟨_, .blockN hr ?_, hk⟩
      intro j hj hji
      simp only [AX.exit.injEq] at hj
      subst hj hji
      simp at hb
    ·rename_i x e1 h1 hne
     exact ⟨_, .blockN hr (fun i hi => absurd hi (by intro hc; exact hne i hc)), hk⟩
    ·simp at hk
   ·obtain ⟨r, hr, hk⟩ := ihc _ _ _ _ _ h
    split at hk
    ·obtain ⟨r', hr', hk'⟩ := ihc _ _ _ _ _ hk
     exact ⟨_, .loopN hr hr', hk'⟩
    ·rename_i x e1 h1 hne
     refine ⟨_, .loopX hr ?_, hk⟩
     cases x <;> simp_all [AX.normal?]
    ·simp at hk
   ·exact ⟨_, .exit, h⟩
   ·exact ⟨_, .ret, h⟩
   ·rename_i g ps a b
    split at h
    ·rename_i f first capt hg
     rw [newF_eq] at h
     obtain ⟨r, hr, hk⟩ := ihf _ _ _ _ h
     split at hk
     ·rename_i v h2
      have hkeep := hr.keep.2 hp.next 0 none e ps a b (by simp [Task.heap]) (by simp [Task.heap, Heap.get_new])
      obtain ⟨st', pend', hget⟩ := hkeep
      simp only [Res.heap] at hget
      rw [hget] at hk
      have hst : ∀ {x : Bool}, cond (Nat.beq st' 1) false x = true → st' ≠ 1 ∧ x = true := by
       intro x hx
       cases hb : Nat.beq st' 1 with
       | true => rw [hb] at hx; simp at hx
       | false => rw [hb] at hx; exact ⟨by (rintro rfl; simp at hb), hx⟩
      split at hk
      ·rename_i heq
       simp only [Option.some.injEq, Blk.loop.injEq] at heq
       obtain ⟨rfl, rfl, _⟩ := heq
       obtain ⟨h1, h2'⟩ := hst hk
       rw [bsetF_eq] at h2'
       exact ⟨_, .rangeFunc (x := .normal) hg hr hget h1 (by simp), h2'⟩
      ·rename_i heq
       simp only [Option.some.injEq, Blk.loop.injEq] at heq
       obtain ⟨rfl, rfl, _⟩ := heq
       obtain ⟨h1, h2'⟩ := hst hk
       rw [bsetF_eq] at h2'
       exact ⟨_, .rangeFunc (x := .exit _) hg hr hget h1 (by simp), h2'⟩
      ·rename_i heq
       simp only [Option.some.injEq, Blk.loop.injEq] at heq
       obtain ⟨rfl, rfl, _⟩ := heq
       obtain ⟨h1, h2'⟩ := hst hk
       rw [bsetF_eq] at h2'
       exact ⟨_, .rangeFunc (x := .ret) hg hr hget h1 (by simp), h2'⟩
      ·simp at hk
     ·exact ⟨_, .rangeFuncP hg hr, hk⟩
     ·simp at hk
    ·simp at h
   ·simp at h
  ·rename_i rd l e hp
   show ∃ r, EvR fs ms (.ops rd l e hp) r ∧ k r = true
   split at h
   ·exact ⟨.ops [] e hp, (.nil : BS fs ms (.ops rd [] e hp) (.ops [] e hp)), h⟩
   ·rename_i i l
    cases hw : wantedA i e with
    | true =>
     rw [hw] at h
     obtain ⟨r, hr, hk⟩ := ihp _ _ _ _ _ h
     split at hk
     ·rw [putE_eq] at hk
      obtain ⟨r', hr', hk'⟩ := iho _ _ _ _ _ hk
      split at hk'
      ·rename_i tr e' h'
       exact ⟨.ops _ e' h', (.on hw hr hr' : BS fs ms (.ops rd (i :: l) e hp) (.ops _ e' h')), hk'⟩
      ·rename_i v e1 h2
       obtain ⟨l1, j, l2, tr, h1, rfl, g1, g2, g3⟩ := hr'
       exact ⟨.code (.panic v) e1 h2, ⟨i :: l1, j, l2, _, h1, rfl, .on hw hr g1, g2, g3⟩, hk'⟩
      ·simp at hk'
     ·rename_i v h2
      exact ⟨.code (.panic v) e h2, ⟨[], i, l, [], hp, rfl, .nil, hw, hr⟩, hk⟩
     ·simp at hk
    | false =>
     rw [hw] at h
     simp only [cond_false, putE_eq] at h
     obtain ⟨r, hr, hk⟩ := iho _ _ _ _ _ h
     split at hk
     ·rename_i tr e' h'
      exact ⟨.ops _ e' h', (.off hw hr : BS fs ms (.ops rd (i :: l) e hp) (.ops _ e' h')), hk⟩
     ·rename_i v e1 h2
      obtain ⟨l1, j, l2, tr, h1, rfl, g1, g2, g3⟩ := hr
      exact ⟨.code (.panic v) e1 h2, ⟨i :: l1, j, l2, _, h1, rfl, .off hw g1, g2, g3⟩, hk⟩
     ·simp at hk
  ·rename_i rd o vals hp
   show ∃ r, BS fs ms (.op rd o vals hp) r ∧ k r = true
   split at h
   ·split at h
    ·rename_i v hv; rw [fV_eq] at h; exact ⟨_, .opP hv, h⟩
    ·simp at h
   ·split at h
    ·rename_i x f hv
     rw [fV_eq, newF_eq] at h
     exact ⟨_, .opA hv, h⟩
    ·simp at h
   ·split at h
    ·rename_i v hv; rw [fV_eq] at h; exact ⟨_, .opR hv, h⟩
    ·simp at h
   ·obtain ⟨v, h1, hv, hk⟩ := eIF_sound h
    rw [fV_eq] at hk
    exact ⟨_, .opE hv, hk⟩
   ·split at h
    ·obtain ⟨r, hr, hk⟩ := ihv _ _ _ _ h
     cases hr with
     | callv hc => exact ⟨_, .opCall (.callv hc), hk⟩
     | callvP hc => exact ⟨_, .opCallP (.callvP hc), hk⟩
     | yield h1 h2 h3 h4 h5 h6 h7 => exact ⟨_, .opCall (.yield h1 h2 h3 h4 h5 h6 h7), hk⟩
     | yieldP h1 h2 h3 h4 h5 h6 h7 h8 h9 h10 => exact ⟨_, .opCallP (.yieldP h1 h2 h3 h4 h5 h6 h7 h8 h9 h10), hk⟩
    ·simp at h
   ·split at h
    ·split at h
     ·rename_i f hf
      obtain ⟨r, hr, hk⟩ := ihf _ _ _ _ h
      rcases hr.call_val with ⟨v, h1, rfl⟩ | ⟨v, h1, rfl⟩
      ·exact ⟨_, .opInvoke hf hr, hk⟩
      ·exact ⟨_, .opInvokeP hf hr, hk⟩

     ·simp at h
    ·simp at h
   ·unfold evPan at h
    split at h
    ·exact ⟨_, .opPanic, h⟩
    ·simp at h
   ·simp at h
  ·rename_i fv args hp
   show ∃ r, BS fs ms (.callv fv args hp) r ∧ k r = true
   split at h
   ·obtain ⟨r, hr, hk⟩ := ihf _ _ _ _ h
    rcases hr.call_val with ⟨v, h1, rfl⟩ | ⟨v, h1, rfl⟩
    ·exact ⟨_, .callv hr, hk⟩
    ·exact ⟨_, .callvP hr, hk⟩
   ·rename_i L
    split at h
    ·rename_i pend e ps a b hg
     cases hc : (Nat.beq args.length ps.length && Nat.ble (L + 1) hp.next) with
     | false => rw [hc] at h; simp at h
     | true =>
      rw [hc] at h
      simp only [cond_true] at h
      simp only [Bool.and_eq_true] at hc
      have hlen := Nat.eq_of_beq_eq_true hc.1
      have hL : L < hp.next := Nat.le_of_ble_eq_true hc.2
      obtain ⟨r, hr, hk⟩ := ihc _ _ _ _ _ h
      split at hk
      ·rename_i e2 h2
       obtain ⟨st', pend', hget⟩ := hr.keep.2 L 0 pend e ps a b hL hg
       simp only [Res.heap] at hget
       rw [hget] at hk
       split at hk
       ·rename_i heq
        simp only [Option.some.injEq, Blk.loop.injEq] at heq
        obtain ⟨rfl, rfl, _⟩ := heq
        rw [bsetF_eq] at hk
        obtain ⟨r', hr', hk'⟩ := ihc _ _ _ _ _ hk
        have hL2 : L < h2.next := Nat.lt_of_lt_of_le hL hr.keep.1
        split at hk'
        ·unfold evYieldP at hk'
         split at hk'
         ·rename_i id A l hbx
          cases hn : (noRange a && noRange A) with
          | false => rw [hn] at hk'; simp at hk'
          | true =>
           rw [hn] at hk'
           simp only [cond_true] at hk'
           simp only [Bool.and_eq_true] at hn
           obtain ⟨rA, hrA, hkA⟩ := ihc _ _ _ _ _ hk'
           split at hkA
           ·obtain ⟨rl, hrl, hkl⟩ := iho _ _ _ _ _ hkA
            split at hkl
            ·obtain ⟨l1, i, l2, tr, h1', rfl, g1, g2, g3⟩ := hrl
             exact ⟨_, .yieldP hg hlen hr hn.1 hget hn.2 hrA g1 g2 g3, hkl⟩
            ·simp at hkl
           ·simp at hkA
         ·simp at hk'
        ·rename_i x e4 h4 hnp
         obtain ⟨st4, pend4, hget4⟩ := hr'.keep.2 L 1 pend' e ps a b hL2 (by simp [Task.heap, Heap.get_set])
         rw [bsetF_eq] at hk'
         exact ⟨_, .yield hg hlen hr hget hr' (fun v hv => hnp v hv) hget4, hk'⟩
        ·simp at hk'
       ·simp at hk
      ·simp at hk
    ·simp at h
   ·simp at h
  ·rename_i f args hp
   show ∃ r, BS fs ms (.call f args hp) r ∧ k r = true
   split at h
   ·rename_i v h1 hor
    exact ⟨_, ho _ _ _ _ _ hor, h⟩
   split at h
   ·rename_i af haf
    split at h
    ·cases hl : Nat.ble args.length af.ntmps with
     | false => rw [hl] at h; simp at h
     | true =>
      rw [hl] at h
      simp only [cond_true, startF_eq] at h
      obtain ⟨r, hr, hk⟩ := ihc _ _ _ _ _ h
      split at hk
      ·split at hk
       ·split at hk
        ·rename_i vs hvs
         rw [fV_eq] at hk
         exact ⟨_, .call haf (Nat.le_of_ble_eq_true hl) hr (.inl rfl) hvs, hk⟩
        ·simp at hk
       ·split at hk
        ·rename_i vs hvs
         rw [fV_eq] at hk
         exact ⟨_, .call haf (Nat.le_of_ble_eq_true hl) hr (.inr rfl) hvs, hk⟩
        ·simp at hk
       ·exact ⟨_, .callP haf (Nat.le_of_ble_eq_true hl) hr, hk⟩
       ·simp at hk
      ·simp at hk
    ·rename_i d hd
     obtain ⟨A, l1, dst, a, rest⟩ := d
     have hbody := splitD_eq hd
     unfold evDf at h
     simp only at h
     cases hl : (Nat.ble args.length af.ntmps && noRange A) with
     | false => rw [hl] at h; simp at h
     | true =>
      rw [hl] at h
      simp only [cond_true, startF_eq] at h
      simp only [Bool.and_eq_true] at hl
      obtain ⟨r1, hr1, hk1⟩ := ihc _ _ _ _ _ h
      split at hk1
      ·obtain ⟨r2, hr2, hk2⟩ := iho _ _ _ _ _ hk1
       split at hk2
       ·rename_i tr e2 h2
        split at hk2
        ·rename_i g first capt hev
         obtain ⟨r3, hr3, hk3⟩ := ihc _ _ _ _ _ hk2
         split at hk3
         ·rename_i x e3 h3
          cases hx : isOut x with
          | false => rw [hx] at hk3; simp at hk3
          | true =>
           rw [hx] at hk3
           simp only [cond_true] at hk3
           split at hk3
           ·rename_i ag hag
            split at hk3
            ·rename_i t l2 rest2 hsr
             cases hc : (Nat.ble (first ++ capt).length ag.ntmps && isNilL ag.results && noRange rest2 && plainL l2) with
             | false => rw [hc] at hk3; simp at hk3
             | true =>
              rw [hc] at hk3
              simp only [cond_true] at hk3
              simp only [Bool.and_eq_true] at hc
              obtain ⟨r4, hr4, hk4⟩ := iho _ _ _ _ _ hk3
              split at hk4
              ·rename_i tr2 e4 h4
               have hh := plain_heap hc.2 hr4
               subst hh
               obtain ⟨r5, hr5, hk5⟩ := ihc _ _ _ _ _ hk4
               have hxx : x = .normal ∨ x = .ret ∨ ∃ v, x = .panic v := by
                cases x with
                | normal => exact .inl rfl
                | ret => exact .inr (.inl rfl)
                | panic v => exact .inr (.inr ⟨v, rfl⟩)
                | exit id => simp [isOut] at hx
               have hnil : ag.results = [] := by
                have := hc.1.1.2
                cases hrs : ag.results with
                | nil => rfl
                | cons _ _ => rw [hrs] at this; simp [isNilL] at this
               split at hk5
               ·rename_i y e5 h5
                split at hk5
                ·split at hk5
                 ·rename_i vs hvs
                  exact ⟨_, .callD haf (Nat.le_of_ble_eq_true hl.1) hbody hr1 hl.2 hr2 hev hr3 hxx hag (Nat.le_of_ble_eq_true hc.1.1.1) (splitR_eq hsr) hnil hc.1.2 hr4 hc.2 hr5 (.inl rfl) hvs, hk5⟩
                 ·simp at hk5
                ·split at hk5
                 ·rename_i vs hvs
                  exact ⟨_, .callD haf (Nat.le_of_ble_eq_true hl.1) hbody hr1 hl.2 hr2 hev hr3 hxx hag (Nat.le_of_ble_eq_true hc.1.1.1) (splitR_eq hsr) hnil hc.1.2 hr4 hc.2 hr5 (.inr rfl) hvs, hk5⟩
                 ·simp at hk5
                ·simp at hk5
               ·simp at hk5
              ·simp at hk4
            ·simp at hk3
           ·simp at hk3
         ·simp at hk3
        ·simp at hk2
       ·simp at hk2
      ·simp at hk1
   ·simp at h
  ·simp at h
end
end Ads
end Go.Proofs.Ytlndlbngfgaoeaa

set_option linter.unusedSimpArgs false
set_option linter.unusedVariables false
namespace Go.Proofs.Ytlndlbngfgaoeaa
namespace Ads

def aIF (o : AOp) (args : List AV) : Option (Blk × (Nat → AV)) :=
 match o with
 | .alloc zeros => match args with
  | [] => some (.cells zeros true 0, fun b => .ptr b 0)
  | _ => none
 | .box => l1 args fun v => some (.cells v.cells true 0, fun b => .ptr b 0)
 | o => aI o args
theorem aIF_eq (o : AOp) (args : List AV) : aIF o args = aI o args := by
 cases o
 case alloc z => cases args <;> rfl
 case box => rcases args with _ | ⟨x, _ | ⟨y, r⟩⟩ <;> rfl
 all_goals rfl

def rIF (o : ROp) (args : List AV) (h : Heap) : Option AV :=
 match o with
 | .load1 => l1 args fun x => dPtr x fun b o => h.load1 b o
 | .loadN n => l1 args fun x => dPtr x fun b o => (h.loadN b o n).map .agg
 | o => rI o args h
theorem rIF_eq (o : ROp) (args : List AV) (h : Heap) : rIF o args h = rI o args h := by
 cases o
 case load1 => rcases args with _ | ⟨x, _ | ⟨y, r⟩⟩ <;> first | rfl | (cases x <;> rfl)
 case loadN n => rcases args with _ | ⟨x, _ | ⟨y, r⟩⟩ <;> first | rfl | (cases x <;> rfl)
 all_goals rfl

def evStore (n : Nat) (args : List AV) (h : Heap) (k : AV → Heap → Bool) : Bool :=
 match args with
 | [x, v] => match x with
  | .ptr b o => cond (Nat.beq v.cells.length n) (storeF h b o v.cells fun h => k .undef h) false
  | _ => false
 | _ => false
def eIG (o : EOp) (args : List AV) (h : Heap) (k : AV → Heap → Bool) : Bool :=
 match o with
 | .store n => evStore n args h k
 | o => eIF o args h k
theorem eIG_eq (o : EOp) (args : List AV) (h : Heap) (k : AV → Heap → Bool) : eIG o args h k = eIF o args h k := by
 cases o
 case store n => rcases args with _ | ⟨x, _ | ⟨y, _ | ⟨z, r⟩⟩⟩ <;> first | rfl | (cases x <;> rfl)
 all_goals rfl

def kOps (k : Res → Bool) (r : Res) : Bool := match r with
 | .ops tr e' h' => k (.code .normal e' h')
 | .code (.panic v) e1 h1 => k (.code (.panic v) e1 h1)
 | _ => false
def kDops (ev : Rec) (rd : Bool) (l : List Ins) (win : List (List Nat)) (e : Env) (h : Heap) (k : Res → Bool) (r : Res) : Bool := match r with
 | .ops tr e' h' => cond (readsB (heapU l tr h') l win tr) (k (.code .normal e' h')) false
 | .code (.panic _) _ _ => evDopsP ev rd l win e h k
 | _ => false
def kSeq (ev : Rec) (rd : Bool) (b : AC) (k : Res → Bool) (r : Res) : Bool := match r with
 | .code .normal e1 h1 => ev (.code rd b e1 h1) k
 | .code x e1 h1 => k (.code x e1 h1)
 | _ => false
def kBlock (id : Nat) (k : Res → Bool) (r : Res) : Bool := match r with
 | .code (.exit i) e1 h1 => cond (Nat.beq i id) (k (.code .normal e1 h1)) (k (.code (.exit i) e1 h1))
 | .code x e1 h1 => k (.code x e1 h1)
 | _ => false
def kRange (e : Env) (ps : List Nat) (a b : AC) (L : Nat) (k : Res → Bool) (r : Res) : Bool := match r with
 | .val v h2 => match h2.get L with
  | some (.loop st none _ _ _ _) => cond (Nat.beq st 1) false (bsetF h2 L (.loop 3 none e ps a b) fun h3 => k (.code .normal e h3))
  | some (.loop st (some (.exit id)) _ _ _ _) => cond (Nat.beq st 1) false (bsetF h2 L (.loop 3 (some (.exit id)) e ps a b) fun h3 => k (.code (.exit id) e h3))
  | some (.loop st (some .ret) _ _ _ _) => cond (Nat.beq st 1) false (bsetF h2 L (.loop 3 (some .ret) e ps a b) fun h3 => k (.code .ret e h3))
  | _ => false
 | .pan v h2 => k (.code (.panic v) e h2)
 | _ => false
def evRange (ev : Rec) (rd : Bool) (g : Rand) (ps : List Nat) (a b : AC) (e : Env) (h : Heap) (k : Res → Bool) : Bool := match rd, e.ev g with
 | false, .func (.func f) first capt => newF h (.loop 0 none e ps a b) fun h1 => ev (.call f (first ++ (.yield h.next :: capt)) h1) (kRange e ps a b h.next k)
 | _, _ => false
def evCond (ev : Rec) (rd : Bool) (v : AV) (a b : AC) (e : Env) (h : Heap) (k : Res → Bool) : Bool := match v with
 | .bool t => ev (.code rd (cond t a b) e h) k
 | _ => false
def evCode (ev : Rec) (rd : Bool) (c : AC) (e : Env) (h : Heap) (k : Res → Bool) : Bool := match c with
 | .skip => k (.code .normal e h)
 | .ops l => ev (.ops rd l e h) (kOps k)
 | .dops l win => ev (.ops rd l e h) (kDops ev rd l win e h k)
 | .seq a b => ev (.code rd a e h) (kSeq ev rd b k)
 | .cond c a b => evCond ev rd (e.ev c) a b e h k
 | .block id c => ev (.code rd c e h) (kBlock id k)
 | .loop c => ev (.code rd c e h) (kSeq ev rd (.loop c) k)
 | .exit id => k (.code (.exit id) e h)
 | .ret => k (.code .ret e h)
 | .rangeFunc g ps a b => evRange ev rd g ps a b e h k
 | .bad => false
def kMark (h : Heap) (vals : List AV) (v : AV) (on : Bool) (k : Res → Bool) (r : Res) : Bool := match r with
 | .ops tr e' h' => k (.ops (⟨h, vals, v, on⟩ :: tr) e' h')
 | .code (.panic v) e1 h2 => k (.code (.panic v) e1 h2)
 | _ => false
def kPut (ev : Rec) (rd : Bool) (i : Ins) (l : List Ins) (e : Env) (h : Heap) (k : Res → Bool) (r : Res) : Bool := match r with
 | .val v h1 => putE e i.dst v fun e1 => ev (.ops rd l e1 h1) (kMark h (i.args.map e.ev) v true k)
 | .pan v h2 => k (.code (.panic v) e h2)
 | _ => false
def evOps (ev : Rec) (rd : Bool) (l : List Ins) (e : Env) (h : Heap) (k : Res → Bool) : Bool := match l with
 | [] => k (.ops [] e h)
 | i :: l => cond (wantedA i e) (ev (.op rd i.op (i.args.map e.ev) h) (kPut ev rd i l e h k))
   (putE e i.dst .undef fun e1 => ev (.ops rd l e1 h) (kMark h (i.args.map e.ev) .undef false k))
def kVal (h : Heap) (k : Res → Bool) (o : Option AV) : Bool := match o with
 | some v => fV v fun v => k (.val v h)
 | none => false
def kMade (h : Heap) (k : Res → Bool) (o : Option (Blk × (Nat → AV))) : Bool := match o with
 | some (x, f) => fV (f h.next) fun v => newF h x fun h1 => k (.val v h1)
 | none => false
def evCall1 (ev : Rec) (vals : List AV) (h : Heap) (k : Res → Bool) : Bool := match vals with
 | fv :: args => ev (.callv fv args h) k
 | [] => false

section
variable (fs : Nat → Option AFunc) (ms : Nat → String → Option Nat) (orc : Orc)
def evInv (ev : Rec) (name : String) (vals : List AV) (h : Heap) (k : Res → Bool) : Bool := match vals with
 | .iface t x :: args => match ms t name with
  | some f => ev (.call f (x :: args) h) k
  | none => false
 | _ => false
def evOp (ev : Rec) (o : IOp) (vals : List AV) (h : Heap) (k : Res → Bool) : Bool := match o with
 | .p o => kVal h k (pIF o vals)
 | .a o => kMade h k (aIF o vals)
 | .r o => kVal h k (rIF o vals h)
 | .e o => eIG o vals h fun v h1 => fV v fun v => k (.val v h1)
 | .call => evCall1 ev vals h k
 | .invoke name => evInv ms ev name vals h k
 | .panic => evPan vals h k
 | _ => false
def kYieldB (ev : Rec) (e2 : Env) (h3 : Heap) (h : Heap) (L : Nat) (e : Env) (ps : List Nat) (a b : AC) (k : Res → Bool) (r : Res) : Bool := match r with
 | .code (.panic _) _ _ => evYieldP ev a b e2 h3 k
 | .code x e4 h4 => bsetF h4 L (.loop (cond x.normal? 0 2) (pendOf x) e ps a b) fun h5 => k (.val (.bool x.normal?) h5)
 | _ => false
def kYieldA (ev : Rec) (h : Heap) (L : Nat) (e : Env) (ps : List Nat) (a b : AC) (k : Res → Bool) (r : Res) : Bool := match r with
 | .code .normal e2 h2 => match h2.get L with
  | some (.loop 0 pend2 _ _ _ _) => bsetF h2 L (.loop 1 pend2 e ps a b) fun h3 => ev (.code true b e2 h3) (kYieldB ev e2 h3 h L e ps a b k)
  | _ => false
 | _ => false
def evYield (ev : Rec) (L : Nat) (args : List AV) (h : Heap) (k : Res → Bool) : Bool := match h.get L with
 | some (.loop 0 pend e ps a b) => cond (Nat.beq args.length ps.length && Nat.ble (L + 1) h.next)
   (ev (.code true a (putAll ps args e) h) (kYieldA ev h L e ps a b k)) false
 | _ => false
def evCallv (ev : Rec) (fv : AV) (args : List AV) (h : Heap) (k : Res → Bool) : Bool := match fv with
 | .func (.func f) first capt => ev (.call f (first ++ (args ++ capt)) h) k
 | .yield L => evYield ev L args h k
 | _ => false
def kRes (rs : List RVar) (e : Env) (h : Heap) (k : Res → Bool) : Bool := match resAll e h rs with
 | some vs => fV (resVal vs) fun v => k (.val v h)
 | none => false
def kEnd (rs : List RVar) (k : Res → Bool) (r : Res) : Bool := match r with
 | .code x e h1 => match x with
  | .normal | .ret => kRes rs e h1 k
  | .panic v => k (.pan v h1)
  | _ => false
 | _ => false
def evBody (ev : Rec) (af : AFunc) (args : List AV) (h : Heap) (k : Res → Bool) : Bool :=
 cond (Nat.ble args.length af.ntmps) (startF af.ntmps args fun e0 => ev (.code false af.body e0 h) (kEnd af.results k)) false
def fTr {β : Type} : Tr β → (Tr β → Bool) → Bool
 | .nil, k => k .nil
 | .node l v r, k => fTr l fun l => fTr r fun r => match v with
  | none => k (.node l none r)
  | some x => k (.node l (some x) r)
theorem fTr_eq {β : Type} : ∀ (t : Tr β) (k : Tr β → Bool), fTr t k = k t
 | .nil, k => rfl
 | .node l v r, k => by
  simp only [fTr]
  rw [fTr_eq l, fTr_eq r]
  cases v <;> rfl
def fHp (h : Heap) (k : Heap → Bool) : Bool := match h with
 | ⟨n, m⟩ => fNat n fun n => fTr m fun m => k ⟨n, m⟩
theorem fHp_eq (h : Heap) (k : Heap → Bool) : fHp h k = k h := by cases h; simp only [fHp, fNat_eq, fTr_eq]
def evCallF (ev : Rec) (f : Nat) (args : List AV) (h : Heap) (k : Res → Bool) : Bool := match fs f with
 | some af => match splitD af.body with
  | none => evBody ev af args h k
  | some d => evDf fs ev d af args h k
 | none => false
def evCall (ev : Rec) (f : Nat) (args : List AV) (h : Heap) (k : Res → Bool) : Bool := match orc f args h with
 | some (v, h1) => fHp h1 fun h1 => k (.val v h1)
 | none => evCallF fs ev f args h k
def evTask (ev : Rec) (t : Task) (k : Res → Bool) : Bool := match t with
 | .code rd c e h => evCode ev rd c e h k
 | .ops rd l e h => evOps ev rd l e h k
 | .op rd o vals h => evOp ms ev o vals h k
 | .callv fv args h => evCallv ev fv args h k
 | .call f args h => evCall fs orc ev f args h k
 | .any .. => false
def evD : Nat → Rec
 | 0 => fun _ _ => false
 | n + 1 => fun t k => evTask fs ms orc (evD n) t k

theorem evD_eq : ∀ n, evD fs ms orc n = ev fs ms orc n
 | 0 => by funext t k; rfl
 | n + 1 => by
  funext t k
  simp only [evD, evD_eq n]
  cases t with
  | code rd c e h =>
   cases c <;> rfl
  | ops rd l e h => cases l <;> rfl
  | op rd o vals h =>
   cases o
   case p o => simp only [evTask, evOp, pIF_eq]; rfl
   case a o => simp only [evTask, evOp, aIF_eq]; rfl
   case r o => simp only [evTask, evOp, rIF_eq]; rfl
   case e o => simp only [evTask, evOp, eIG_eq]; rfl
   all_goals rfl
  | callv fv args h => cases fv <;> rfl
  | call f args h =>
   simp only [evTask, evCall, fHp_eq]
   rfl
  | any rd c e h => rfl
end
theorem evD_true {fs : Nat → Option AFunc} {ms : Nat → String → Option Nat} {orc : Orc} {n : Nat} {t : Task} {k : Res → Bool} (h : evD fs ms orc n t k = true) : ev fs ms orc n t k = true := by
 rw [← evD_eq]; exact h
end Ads
end Go.Proofs.Ytlndlbngfgaoeaa

set_option linter.unusedSimpArgs false
set_option linter.unusedVariables false
namespace Go.Proofs.Ytlndlbngfgaoeaa
namespace Ads

def AllT (q : Nat → AFunc → Prop) : List (Nat × AFunc) → Prop
 | [] => True
 | p :: l => q p.1 p.2 ∧ AllT q l

def ofL : List (Nat × AFunc) → Tr AFunc
 | [] => .nil
 | p :: l => (ofL l).set p.1 p.2

theorem ofL_get {q : Nat → AFunc → Prop} : ∀ {l : List (Nat × AFunc)}, AllT q l → ∀ {f : Nat} {af : AFunc}, (ofL l).get f = some af → q f af
 | [], _, f, af, h => by simp [ofL, Tr.get] at h
 | p :: l, hq, f, af, h => by
  simp only [ofL, Tr.get_set] at h
  split at h
  ·rename_i he
   cases h
   rw [he]
   exact hq.1
  ·exact ofL_get hq.2 h

section
variable {P : Program} {fs : Nat → Option AFunc} {ms : Nat → String → Option Nat}

theorem inv_empty (H0 : Nat) (ρ : Rho) (w : World) (hl : H0 ≤ w.heap.size) : Inv P H0 ρ (fun _ => False) ⟨0, .nil⟩ w :=
 ⟨fun b hb => hb.elim, fun b _ => rfl, hl, fun b x hb _ => hb.elim, fun b b' hb _ _ _ _ => hb.elim⟩

structure Kept (w w' : World) : Prop where
 size : w.heap.size ≤ w'.heap.size
 old : ∀ r : Nat, r < w.heap.size → w'.heap[r]? = w.heap[r]?
 tape : w'.tape = w.tape
 os : w'.os = w.os
 output : w'.output = w.output

theorem BS.calls (sys : SysOk P fs ms) {f : Nat} {args : List AV} {v : AV} {h1 : Heap} (h : BS fs ms (.call f args ⟨0, .nil⟩) (.val v h1)) (ha : allD (fun _ => False) args) (w : World) :
  Calls P f (reals default args).toArray w fun e w' => ∃ ρ, e = .returned (real ρ v) ∧ Kept w w' := by
 have hs := (h.sound sys w.heap.size).1
 have := hs default (fun _ => False) w 0 (inv_empty _ _ w (Nat.le_refl _)) ha
 rw [callsIn_wide] at this
 refine this.mono ?_
 rintro e w' ⟨ρ', rfl, hi, hx, hv⟩
 exact ⟨ρ', rfl, hx.size, fun r hr => hx.frame r hr (fun b hb => hb.elim), hx.tape, hx.os, hx.output⟩

def isTrue : Res → Bool
 | .val (.bool true) _ => true
 | _ => false

theorem ev_true {orc : Orc} (ho : OrcOk fs ms orc) {n f : Nat} {h : Heap} (he : ev fs ms orc n (.call f [] h) isTrue = true) : ∃ h1, BS fs ms (.call f [] h) (.val (.bool true) h1) := by
 obtain ⟨r, hr, hk⟩ := ev_sound ho n _ _ he
 cases r with
 | val v h1 =>
  cases v with
  | bool b => cases b with
   | true => exact ⟨h1, hr⟩
   | false => simp [isTrue] at hk
  | _ => simp [isTrue] at hk
 | _ => simp [isTrue] at hk
end
end Ads
end Go.Proofs.Ytlndlbngfgaoeaa

set_option linter.unusedSimpArgs false
set_option linter.unusedVariables false
namespace Go.Proofs.Ytlndlbngfgaoeaa
namespace Ads

def fLC {α : Type} : List AV → (List AV → α) → α
 | [], k => k []
 | v :: vs, k => fC v fun v => fLC vs fun vs => k (v :: vs)
theorem fLC_eq {α : Type} : ∀ (l : List AV) (k : List AV → α), fLC l k = k l
 | [], k => rfl
 | v :: vs, k => by simp [fLC, fC_eq, fLC_eq vs]

section
variable (fs : Nat → Option AFunc) (ms : Nat → String → Option Nat) (rd : Bool)

abbrev brn (t : Bool) (A B : Prop) : Prop := @Bool.rec (fun _ => Prop) B A t
def Comes (c : AC) (e : Env) (h : Heap) (Q : AX → Env → Heap → Prop) : Prop := ∃ x e' h', BS fs ms (.code rd c e h) (.code x e' h') ∧ Q x e' h'
def ComesOps (l : List Ins) (e : Env) (h : Heap) (Q : Env → Heap → Prop) : Prop := ∃ tr e' h', BS fs ms (.ops rd l e h) (.ops tr e' h') ∧ Q e' h'
def Calld (f : Nat) (args : List AV) (h : Heap) (Q : AV → Heap → Prop) : Prop := ∃ v h', BS fs ms (.call f args h) (.val v h') ∧ Q v h'

def sureOp (o : POp) (vals : List AV) : Bool :=
 match o with
 | .bin op => match vals with
  | .str _ :: _ => match op with
   | .add => false
   | _ => true
  | _ => match op with
   | .quo | .rem | .shl | .shr => false
   | _ => true
 | .iaddrS _ | .iaddrA _ _ | .idxA _ _ _ | .idxS | .slice _ _ _ _ | .sliceStr _ _ | .sliceArr _ _ _ _ _ => false
 | _ => true

def wpOp (o : IOp) (vals : List AV) (h : Heap) (k : AV → Heap → Prop) : Prop :=
 match o with
 | .p .pick => match vals with
  | [.bool c, a, b] => brn c (fC a fun v => k v h) (fC b fun v => k v h)
  | _ => False
 | .p o => match sureOp o vals with
  | true => match pIF o vals with
   | some v => fC v fun v => k v h
   | none => False
  | false => ∃ v, pIF o vals = some v ∧ fC v fun v => k v h
 | .a o => match aIF o vals with
  | some (x, f) => k (f h.next) (h.new x)
  | none => False
 | .r o => ∃ v, rI o vals h = some v ∧ k v h
 | .e o => ∃ v h1, eI o vals h = some (v, h1) ∧ k v h1
 | .call => match vals with
  | .func (.func f) first capt :: args => Calld fs ms f (first ++ (args ++ capt)) h k
  | fv :: args => ∃ v h1, BS fs ms (.callv fv args h) (.val v h1) ∧ k v h1
  | [] => False
 | .invoke name => match vals with
  | .iface t x :: args => match ms t name with
   | some f => Calld fs ms f (x :: args) h k
   | none => False
  | _ => False
 | _ => False

def wpO : List Ins → Env → Heap → (Env → Heap → Prop) → Prop
 | [], e, h, k => k e h
 | i :: l, e, h, k => match i.guard with
  | none => fLC (i.args.map e.ev) fun vals => wpOp fs ms i.op vals h fun v h1 => putE e i.dst v fun e1 => wpO l e1 h1 k
  | some (d, want) => match e.get d with
   | .bool b => match want with
    | true => brn b (fLC (i.args.map e.ev) fun vals => wpOp fs ms i.op vals h fun v h1 => putE e i.dst v fun e1 => wpO l e1 h1 k) (putE e i.dst .undef fun e1 => wpO l e1 h k)
    | false => brn b (putE e i.dst .undef fun e1 => wpO l e1 h k) (fLC (i.args.map e.ev) fun vals => wpOp fs ms i.op vals h fun v h1 => putE e i.dst v fun e1 => wpO l e1 h1 k)
   | _ => putE e i.dst .undef fun e1 => wpO l e1 h k

def wpC : AC → Env → Heap → (AX → Env → Heap → Prop) → Prop
 | .skip, e, h, k => k .normal e h
 | .ops l, e, h, k => wpO fs ms l e h fun e h => k .normal e h
 | .dops l win, e, h, k => match win.all (·.isEmpty) with
  | true => wpO fs ms l e h fun e h => k .normal e h
  | false => ∃ tr e' h', BS fs ms (.ops rd l e h) (.ops tr e' h') ∧ regionOk l win tr h' ∧ k .normal e' h'
 | .seq a b, e, h, k => wpC a e h fun x e1 h1 => match x with
  | .normal => wpC b e1 h1 k
  | x => k x e1 h1
 | .cond c a b, e, h, k => match e.ev c with
  | .bool t => brn t (wpC a e h k) (wpC b e h k)
  | _ => False
 | .block id c, e, h, k => wpC c e h fun x e1 h1 => match x with
  | .exit i => match Nat.beq i id with
   | true => k .normal e1 h1
   | false => k (.exit i) e1 h1
  | x => k x e1 h1
 | .loop c, e, h, k => Comes fs ms rd (.loop c) e h k
 | .rangeFunc f ps a b, e, h, k => Comes fs ms rd (.rangeFunc f ps a b) e h k
 | .exit id, e, h, k => k (.exit id) e h
 | .ret, e, h, k => k .ret e h
 | .bad, _, _, _ => False

end

section
variable {fs : Nat → Option AFunc} {ms : Nat → String → Option Nat} {rd : Bool}

theorem wpOp_sound {o : IOp} {vals : List AV} {h : Heap} {k : AV → Heap → Prop} (hw : wpOp fs ms o vals h k) : ∃ v h1, BS fs ms (.op rd o vals h) (.val v h1) ∧ k v h1 := by
 unfold wpOp at hw
 split at hw
 ·split at hw
  ·rename_i c a b
   cases c with
   | true => exact ⟨_, _, .opP (v := a) rfl, by rw [← fC_eq a fun v => k v h]; exact hw⟩
   | false => exact ⟨_, _, .opP (v := b) rfl, by rw [← fC_eq b fun v => k v h]; exact hw⟩
  ·exact hw.elim
 ·split at hw
  ·split at hw
   ·rename_i v hv; rw [pIF_eq] at hv; rw [fC_eq] at hw; exact ⟨_, _, .opP hv, hw⟩
   ·exact hw.elim
  ·obtain ⟨v, hv, hw⟩ := hw; rw [pIF_eq] at hv; rw [fC_eq] at hw; exact ⟨_, _, .opP hv, hw⟩
 ·split at hw
  ·rename_i x f hv; rw [aIF_eq] at hv; exact ⟨_, _, .opA hv, hw⟩
  ·exact hw.elim
 ·obtain ⟨v, hv, hk⟩ := hw; exact ⟨_, _, .opR hv, hk⟩
 ·obtain ⟨v, h1, hv, hk⟩ := hw; exact ⟨_, _, .opE hv, hk⟩
 ·split at hw
  ·obtain ⟨v, h1, hb, hk⟩ := hw; exact ⟨_, _, .opCall (.callv hb), hk⟩
  ·obtain ⟨v, h1, hb, hk⟩ := hw; exact ⟨_, _, .opCall hb, hk⟩
  ·exact hw.elim
 ·split at hw
  ·split at hw
   ·rename_i f hf
    obtain ⟨v, h1, hb, hk⟩ := hw
    exact ⟨_, _, .opInvoke hf hb, hk⟩
   ·exact hw.elim
  ·exact hw.elim
 ·exact hw.elim

theorem wpO_sound : ∀ {l : List Ins} {e : Env} {h : Heap} {k : Env → Heap → Prop}, wpO fs ms l e h k → ComesOps fs ms rd l e h k
 | [], e, h, k, hw => ⟨_, _, _, .nil, hw⟩
 | i :: l, e, h, k, hw => by
  unfold wpO at hw
  split at hw
  ·rename_i hg
   rw [fLC_eq] at hw
   obtain ⟨v, h1, hb, hk⟩ := wpOp_sound (rd := rd) hw
   rw [putE_eq] at hk
   obtain ⟨tr, e', h', hl, hk⟩ := wpO_sound hk
   exact ⟨_, _, _, .on (by simp [wantedA, hg]) hb hl, hk⟩
  ·rename_i d want hg
   split at hw
   ·rename_i b hb
    have hon : b = want → (fLC (i.args.map e.ev) fun vals => wpOp fs ms i.op vals h fun v h1 => putE e i.dst v fun e1 => wpO fs ms l e1 h1 k) → ComesOps fs ms rd (i :: l) e h k := by
     intro hbw hw
     rw [fLC_eq] at hw
     obtain ⟨v, h1, hb', hk⟩ := wpOp_sound (rd := rd) hw
     rw [putE_eq] at hk
     obtain ⟨tr, e', h', hl, hk⟩ := wpO_sound hk
     exact ⟨_, _, _, .on (by simp [wantedA, hg, hb, hbw]) hb' hl, hk⟩
    have hoff : b = !want → (putE e i.dst .undef fun e1 => wpO fs ms l e1 h k) → ComesOps fs ms rd (i :: l) e h k := by
     intro hbw hk
     rw [putE_eq] at hk
     obtain ⟨tr, e', h', hl, hk⟩ := wpO_sound hk
     exact ⟨_, _, _, .off (by simp [wantedA, hg, hb, hbw]) hl, hk⟩
    cases want <;> cases b
    ·exact hon rfl hw
    ·exact hoff rfl hw
    ·exact hoff rfl hw
    ·exact hon rfl hw
   ·rename_i hne
    rw [putE_eq] at hw
    obtain ⟨tr, e', h', hl, hk⟩ := wpO_sound hw
    refine ⟨_, _, _, .off ?_ hl, hk⟩
    unfold wantedA
    rw [hg]
    cases hv : e.get d with
    | bool b => exact absurd hv (hne b)
    | _ => simp only [hv]

theorem readsOk_none {u : Nat → Heap} : ∀ {l : List Ins} {win : List (List Nat)} {tr : List Mark1}, win.all (·.isEmpty) = true → readsOk u l win tr
 | [], _, _, _ => by simp [readsOk]
 | _ :: _, [], _, _ => by simp [readsOk]
 | _ :: _, _ :: _, [], _ => by simp [readsOk]
 | x :: l, cs :: win, m :: tr, h => by
  simp only [List.all_cons, Bool.and_eq_true] at h
  simp only [readsOk]
  refine ⟨?_, readsOk_none h.2⟩
  split
  ·intro _ c hc
   rw [List.isEmpty_iff.1 h.1] at hc
   simp at hc
  ·trivial

theorem wpC_sound : ∀ {c : AC} {e : Env} {h : Heap} {k : AX → Env → Heap → Prop}, wpC fs ms rd c e h k → Comes fs ms rd c e h k
 | .skip, e, h, k, hw => ⟨_, _, _, .skip, hw⟩
 | .ops l, e, h, k, hw => by
  obtain ⟨tr, e', h', hb, hk⟩ := wpO_sound (rd := rd) (show wpO fs ms l e h _ from hw)
  exact ⟨_, _, _, .ops hb, hk⟩
 | .dops l win, e, h, k, hw => by
  unfold wpC at hw
  split at hw
  ·rename_i hwin
   obtain ⟨tr, e', h', hb, hk⟩ := wpO_sound (rd := rd) hw
   exact ⟨_, _, _, .dops hb (readsOk_none hwin), hk⟩
  ·obtain ⟨tr, e', h', hb, hr, hk⟩ := hw
   exact ⟨_, _, _, .dops hb hr, hk⟩
 | .seq a b, e, h, k, hw => by
  obtain ⟨x, e1, h1, hb, hk⟩ := wpC_sound (show wpC fs ms rd a e h _ from hw)
  cases x with
  | normal =>
   obtain ⟨x2, e2, h2, hb2, hk2⟩ := wpC_sound (show wpC fs ms rd b e1 h1 k from hk)
   exact ⟨_, _, _, .seqN hb hb2, hk2⟩
  | exit i => exact ⟨_, _, _, .seqX hb rfl, hk⟩
  | ret => exact ⟨_, _, _, .seqX hb rfl, hk⟩
  | panic v => exact ⟨_, _, _, .seqX hb rfl, hk⟩
 | .cond c a b, e, h, k, hw => by
  unfold wpC at hw
  split at hw
  ·rename_i t ht
   cases t with
   | true =>
    obtain ⟨x, e1, h1, hb, hk⟩ := wpC_sound (show wpC fs ms rd a e h k from hw)
    exact ⟨_, _, _, .cond ht hb, hk⟩
   | false =>
    obtain ⟨x, e1, h1, hb, hk⟩ := wpC_sound (show wpC fs ms rd b e h k from hw)
    exact ⟨_, _, _, .cond ht hb, hk⟩
  ·exact hw.elim
 | .block id c, e, h, k, hw => by
  obtain ⟨x, e1, h1, hb, hk⟩ := wpC_sound (show wpC fs ms rd c e h _ from hw)
  cases x with
  | exit i =>
   simp only at hk
   split at hk
   ·rename_i hbq
    have := Nat.eq_of_beq_eq_true hbq
    subst this
    exact ⟨_, _, _, .blockX hb, hk⟩
   ·rename_i hbq
    refine ⟨_, _, _, .blockN hb ?_, hk⟩
    intro j hj hji
    simp only [AX.exit.injEq] at hj
    subst hj hji
    simp at hbq
  | normal => exact ⟨_, _, _, .blockN hb (by simp), hk⟩
  | ret => exact ⟨_, _, _, .blockN hb (by simp), hk⟩
  | panic v => exact ⟨_, _, _, .blockN hb (by simp), hk⟩
 | .loop c, e, h, k, hw => hw
 | .rangeFunc f ps a b, e, h, k, hw => hw
 | .exit id, e, h, k, hw => ⟨_, _, _, .exit, hw⟩
 | .ret, e, h, k, hw => ⟨_, _, _, .ret, hw⟩
 | .bad, e, h, k, hw => hw.elim

theorem br {t : Bool} {A B : Prop} (h1 : t = true → A) (h2 : t = false → B) : @Bool.rec (fun _ => Prop) B A t := by
 cases t with
 | true => exact h1 rfl
 | false => exact h2 rfl

def endC (af : AFunc) (Q : AV → Heap → Prop) : AX → Env → Heap → Prop := fun x e h => match x with
 | .normal | .ret => match resAll e h af.results with
  | some vs => fLC vs fun vs => match vs with
   | [v] => Q v h
   | vs => Q (.tup vs) h
  | none => False
 | _ => False

theorem endQ {Q : AV → Heap → Prop} {vs : List AV} {h : Heap} (hk : fLC vs fun vs => match vs with
   | [v] => Q v h
   | vs => Q (.tup vs) h) : Q (resVal vs) h := by
 rw [fLC_eq] at hk
 rcases vs with _ | ⟨v, _ | ⟨u, r⟩⟩ <;> exact hk

theorem calld {f : Nat} {af : AFunc} {args : List AV} {h : Heap} {Q : AV → Heap → Prop} (hf : fs f = some af) (hlen : args.length ≤ af.ntmps)
  (hw : startF af.ntmps args fun e => wpC fs ms false af.body e h (endC af Q)) : Calld fs ms f args h Q := by
 rw [startF_eq] at hw
 obtain ⟨x, e1, h1, hb, hk⟩ := wpC_sound hw
 cases x with
 | normal =>
  simp only [endC] at hk
  split at hk
  ·rename_i vs hvs; exact ⟨_, _, .call hf hlen hb (.inl rfl) hvs, endQ hk⟩
  ·exact hk.elim
 | ret =>
  simp only [endC] at hk
  split at hk
  ·rename_i vs hvs; exact ⟨_, _, .call hf hlen hb (.inr rfl) hvs, endQ hk⟩
  ·exact hk.elim
 | exit i => exact hk.elim
 | panic v => exact hk.elim

theorem Calld.mono {f : Nat} {args : List AV} {h : Heap} {Q Q' : AV → Heap → Prop} (hc : Calld fs ms f args h Q) (hq : ∀ v h', Q v h' → Q' v h') : Calld fs ms f args h Q' := by
 obtain ⟨v, h', hb, hk⟩ := hc
 exact ⟨v, h', hb, hq v h' hk⟩

theorem Comes.mono {c : AC} {e : Env} {h : Heap} {Q Q' : AX → Env → Heap → Prop} (hc : Comes fs ms rd c e h Q) (hq : ∀ x e' h', Q x e' h' → Q' x e' h') : Comes fs ms rd c e h Q' := by
 obtain ⟨x, e', h', hb, hk⟩ := hc
 exact ⟨x, e', h', hb, hq x e' h' hk⟩

theorem comes_loop {c : AC} {e : Env} {h : Heap} {Q : AX → Env → Heap → Prop}
  (hw : wpC fs ms rd c e h fun x e1 h1 => match x with | .normal => Comes fs ms rd (.loop c) e1 h1 Q | x => Q x e1 h1) : Comes fs ms rd (.loop c) e h Q := by
 obtain ⟨x, e1, h1, hb, hk⟩ := wpC_sound hw
 cases x with
 | normal =>
  obtain ⟨x2, e2, h2, hb2, hk2⟩ := hk
  exact ⟨_, _, _, .loopN hb hb2, hk2⟩
 | exit i => exact ⟨_, _, _, .loopX hb rfl, hk⟩
 | ret => exact ⟨_, _, _, .loopX hb rfl, hk⟩
 | panic v => exact ⟨_, _, _, .loopX hb rfl, hk⟩

/- Slots at a loop's head. -/
def sk : Nat → (Nat → Option AV) → Env
 | 0, _ => .nil
 | d + 1, g => .node (sk d fun j => g (2 * j + 1)) (g 0) (sk d fun j => g (2 * j + 2))

def isFull : Nat → Env → Bool
 | 0, .nil => true
 | d + 1, .node l _ r => cond (isFull d l) (isFull d r) false
 | _, _ => false

theorem sk_get : ∀ (d : Nat) (e : Env), isFull d e = true → sk d (Tr.get e) = e
 | 0, .nil, _ => rfl
 | 0, .node _ _ _, h => by simp [isFull] at h
 | d + 1, .nil, h => by simp [isFull] at h
 | d + 1, .node l v r, h => by
  simp only [isFull] at h
  cases hl : isFull d l with
  | false => rw [hl] at h; simp at h
  | true =>
   rw [hl] at h
   simp only [cond_true] at h
   have h1 : (fun j => (Tr.node l v r).get (2 * j + 1)) = Tr.get l := by
    funext j
    rw [Tr.get_odd _ _ (by omega)]
    simp only [Tr.left]
    congr 1
    omega
   have h2 : (fun j => (Tr.node l v r).get (2 * j + 2)) = Tr.get r := by
    funext j
    rw [Tr.get_even _ _ (by omega) (by omega)]
    simp only [Tr.right]
    congr 1
    omega
   simp only [sk]
   rw [h1, h2, sk_get d l hl, sk_get d r h]
   simp [Tr.get]

def kn (l : List (Nat × AV)) (g : Nat → Option AV) (i : Nat) : Option AV :=
 match l with
 | [] => g i
 | (j, v) :: r => cond (Nat.beq i j) (some v) (kn r g i)

def AllAt (e : Env) : List (Nat × AV) → Prop
 | [] => True
 | (i, v) :: l => Tr.get e i = some v ∧ AllAt e l

theorem kn_get {e : Env} : ∀ {l : List (Nat × AV)}, AllAt e l → ∀ i, kn l (Tr.get e) i = Tr.get e i
 | [], _, i => rfl
 | (j, v) :: r, h, i => by
  simp only [kn]
  cases hb : Nat.beq i j with
  | false => exact kn_get h.2 i
  | true =>
   have := Nat.eq_of_beq_eq_true hb
   subst this
   exact h.1.symm

theorem to_kn {P : Env → Prop} {e : Env} (d : Nat) (l : List (Nat × AV)) (hf : isFull d e = true) (hl : AllAt e l) (hc : ∀ g, P (sk d (kn l g))) : P e := by
 have := hc (Tr.get e)
 rwa [show kn l (Tr.get e) = Tr.get e from funext (kn_get hl), sk_get d e hf] at this

theorem comes_kn {c : AC} {e : Env} {h : Heap} {Q : AX → Env → Heap → Prop} (d : Nat) (l : List (Nat × AV)) (hf : isFull d e = true) (hl : AllAt e l)
  (hc : ∀ g, Comes fs ms rd c (sk d (kn l g)) h Q) : Comes fs ms rd c e h Q := to_kn (P := fun e => Comes fs ms rd c e h Q) d l hf hl hc
end
end Ads
end Go.Proofs.Ytlndlbngfgaoeaa

