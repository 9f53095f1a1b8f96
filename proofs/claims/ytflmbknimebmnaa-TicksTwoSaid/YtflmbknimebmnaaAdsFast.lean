/-
  The pure operations once more, one small function each: for the kernel, that copies what it opens.
-/
import Derived.Test.YtflmbknimebmnaaAdsMain
set_option linter.unusedSimpArgs false
set_option linter.unusedVariables false
namespace Go.Proofs.Ytflmbknimebmnaa
namespace Ads

def l1 {α : Type} (args : List AV) (f : AV → Option α) : Option α := match args with
  | [x] => f x
  | _ => none
def l2 {α : Type} (args : List AV) (f : AV → AV → Option α) : Option α := match args with
  | [x, y] => f x y
  | _ => none
def l3 {α : Type} (args : List AV) (f : AV → AV → AV → Option α) : Option α := match args with
  | [x, y, z] => f x y z
  | _ => none
def lc {α : Type} (args : List AV) (f : AV → List AV → Option α) : Option α := match args with
  | x :: r => f x r
  | _ => none
def dInt {α : Type} (v : AV) (f : IntKind → Int → Option α) : Option α := match v with
  | .int k n => f k n
  | _ => none
def dBool {α : Type} (v : AV) (f : Bool → Option α) : Option α := match v with
  | .bool b => f b
  | _ => none
def dStr {α : Type} (v : AV) (f : List UInt8 → Option α) : Option α := match v with
  | .str s => f s
  | _ => none
def dPtr {α : Type} (v : AV) (f : Nat → Nat → Option α) : Option α := match v with
  | .ptr b o => f b o
  | _ => none
def dAgg {α : Type} (v : AV) (f : List AV → Option α) : Option α := match v with
  | .agg cs => f cs
  | _ => none
def dTup {α : Type} (v : AV) (f : List AV → Option α) : Option α := match v with
  | .tup cs => f cs
  | _ => none
def dSl {α : Type} (v : AV) (f : Nat → Nat → Nat → Nat → Bool → Option α) (g : Option α) : Option α := match v with
  | .sl b o l c op => f b o l c op
  | .nils => g
  | _ => none
def dNat {α : Type} (v : AV) (f : Nat → Option α) : Option α := match asNat v with
  | some n => f n
  | none => none

def binF (op : BinOp) (x y : AV) : Option AV :=
  match x with
  | .int k a => dInt y fun k' b => cond (isShift op) (binShift op k a b) (cond (decide (k = k')) (binInt op k a b) none)
  | .str a => dStr y fun b => binStr op a b
  | _ => none

def sliceF (size : Nat) (lo hi m : Bool) (x : AV) (r : List AV) : Option AV :=
  dSl x (fun b o len cap opn => match bounds len cap lo hi m r with
    | some (l, h, mm) => cond (Nat.beq mm l && Nat.beq cap mm && opn) none (some (.sl b (o + cond (Nat.beq mm l) 0 (l * size)) (h - l) (mm - l) (cond m false opn)))
    | none => none) (match bounds 0 0 lo hi m r with
    | some _ => some .nils
    | none => none)

def pIF (o : POp) (args : List AV) : Option AV :=
  match o with
  | .mov => l1 args some
  | .pick => l3 args fun c a b => dBool c fun c => some (cond c a b)
  | .bin op => l2 args (binF op)
  | .eq k => l2 args fun x y => (eqA k x y).map .bool
  | .neq k => l2 args fun x y => (eqA k x y).map fun b => .bool !b
  | .not => l1 args fun x => dBool x fun b => some (.bool !b)
  | .neg => l1 args fun x => dInt x fun k n => some (.int k (k.wrap (0 - n)))
  | .strid => l1 args fun x => dStr x fun s => some (.str s)
  | .conv k => l1 args fun x => dInt x fun _ n => some (.int k (k.wrap n))
  | .field off n g => l1 args fun x => dAgg x fun cs => part cs off n g
  | .ext i => l1 args fun x => dTup x fun vs => vs[i]?
  | .nilchk => l1 args fun x => dPtr x fun b o => some (.ptr b o)
  | .faddr off => l1 args fun x => dPtr x fun b o => some (.ptr b (o + off))
  | .iaddrS size => l2 args fun x i => dSl x (fun b o len _ _ => dNat i fun i => cond (Nat.ble (i + 1) len) (some (.ptr b (o + i * size))) none) none
  | .iaddrA size len => l2 args fun x i => dPtr x fun b o => dNat i fun i => cond (Nat.ble (i + 1) len) (some (.ptr b (o + i * size))) none
  | .idxA size len g => l2 args fun x i => dAgg x fun cs => dNat i fun i => cond (Nat.ble (i + 1) len) (part cs (i * size) size g) none
  | .idxS => l2 args fun x i => dStr x fun s => dNat i fun i => (s[i]?).map fun b => .int .u8 b.toNat
  | .build zeros parts => (fill zeros parts args).map .agg
  | .mkiface t => l1 args fun x => some (.iface t x)
  | .mkfunc fn n => some (.func fn (args.take n) (args.drop n))
  | .lenS => l1 args fun x => dSl x (fun _ _ len _ _ => some (.int .i64 len)) (some (.int .i64 0))
  | .lenStr => l1 args fun x => dStr x fun s => some (.int .i64 s.length)
  | .lenA n => some (.int .i64 n)
  | .mx => lc args fun x r => fold2 max2 x r
  | .mn => lc args fun x r => fold2 min2 x r
  | .slice size lo hi m => lc args fun x r => sliceF size lo hi m x r
  | .sliceStr lo hi => lc args fun x r => dStr x fun s => match bounds s.length s.length lo hi false r with
    | some (l, h, _) => some (.str ((s.take h).drop l))
    | none => none
  | .sliceArr size len lo hi m => lc args fun x r => dPtr x fun b o => match bounds len len lo hi m r with
    | some (l, h, mm) => some (.sl b (o + cond (Nat.beq mm l) 0 (l * size)) (h - l) (mm - l) false)
    | none => none
  | .tassert t ok zero => l1 args fun x => match x with
    | .iface u v => cond (Nat.beq u t) (some (cond ok (.tup [v, .bool true]) v)) (cond ok (some (.tup [zero, .bool false])) none)
    | .nili => cond ok (some (.tup [zero, .bool false])) none
    | _ => none

theorem binF_eq (op : BinOp) (x y : AV) : binF op x y = binA op x y := by
  cases x <;> cases y <;> rfl

theorem pIF_eq (o : POp) (args : List AV) : pIF o args = pI o args := by
  cases o
  case build z ps => rfl
  case mkfunc fn n => rfl
  case lenA n => rfl
  case bin op => rcases args with _ | ⟨x, _ | ⟨y, _ | ⟨z, r⟩⟩⟩ <;> first | rfl | exact binF_eq op x y
  case mx => cases args <;> rfl
  case mn => cases args <;> rfl
  case slice size lo hi m => rcases args with _ | ⟨x, r⟩ <;> first | rfl | (cases x <;> rfl)
  case sliceStr lo hi => rcases args with _ | ⟨x, r⟩ <;> first | rfl | (cases x <;> rfl)
  case sliceArr size len lo hi m => rcases args with _ | ⟨x, r⟩ <;> first | rfl | (cases x <;> rfl)
  case pick => rcases args with _ | ⟨x, _ | ⟨y, _ | ⟨z, _ | ⟨u, r⟩⟩⟩⟩ <;> first | rfl | (cases x <;> rfl)
  case tassert t ok zero => rcases args with _ | ⟨x, _ | ⟨y, r⟩⟩ <;> first | rfl | (cases x <;> rfl)
  all_goals (rcases args with _ | ⟨x, _ | ⟨y, _ | ⟨z, r⟩⟩⟩ <;> first | rfl | (cases x <;> rfl) | (cases x <;> cases y <;> rfl))

end Ads
end Go.Proofs.Ytflmbknimebmnaa
