/-
  The pure operations once more, one small function each: for the kernel, that copies what it opens.
  An evaluator of big steps for Lean's kernel: continuations, data worked out before it is handed on. It is sound.
  The evaluator: loops' records are kept; comparing; the evaluator itself, and that it is sound.
  The evaluator itself, and that it is sound.
  The evaluator in small pieces: for the kernel, that copies what it opens.
  Tables of compiled functions; what a closed run comes to in the model.
  What code must come to, as a proposition that is worked out from the code: for functions whose arguments are not known.
-/
import Derived.Test.YtnlcabhfkpafmaaGreatAdsMain
set_option linter.unusedSimpArgs false
set_option linter.unusedVariables false
namespace Go.Proofs.YtnlcabhfkpafmaaGreat
namespace Ads

def l1 {α : Type} (args : List AV) (f : AV → Option α) : Option α := match args with
 | [x] => f x
 | _ => none
def l2 {α : Type} (args : List AV) (f : AV → AV → Option α) : Option α := match args with
 | [x, y] => f x y
 | _ => none
def l3 {α : Type} (args : List AV) (f : AV → AV → AV → Option α) : Option α := match args with
 | [x, y, z] => f x y z
 | _ => none
def lc {α : Type} (args : List AV) (f : AV → List AV → Option α) : Option α := match args with
 | x :: r => f x r
 | _ => none
def dInt {α : Type} (v : AV) (f : IntKind → Int → Option α) : Option α := match v with
 | .int k n => f k n
 | _ => none
def dBool {α : Type} (v : AV) (f : Bool → Option α) : Option α := match v with
 | .bool b => f b
 | _ => none
def dStr {α : Type} (v : AV) (f : List UInt8 → Option α) : Option α := match v with
 | .str s => f s
 | _ => none
def dPtr {α : Type} (v : AV) (f : Nat → Nat → Option α) : Option α := match v with
 | .ptr b o => f b o
 | _ => none
def dAgg {α : Type} (v : AV) (f : List AV → Option α) : Option α := match v with
 | .agg cs => f cs
 | _ => none
def dTup {α : Type} (v : AV) (f : List AV → Option α) : Option α := match v with
 | .tup cs => f cs
 | _ => none
def dSl {α : Type} (v : AV) (f : Nat → Nat → Nat → Nat → Bool → Option α) (g : Option α) : Option α := match v with
 | .sl b o l c op => f b o l c op
 | .nils => g
 | _ => none
def dNat {α : Type} (v : AV) (f : Nat → Option α) : Option α := match asNat v with
 | some n => f n
 | none => none

def binF (op : BinOp) (x y : AV) : Option AV :=
 match x with
 | .int k a => dInt y fun k' b => cond (isShift op) (binShift op k a b) (cond (decide (k = k')) (binInt op k a b) none)
 | .str a => dStr y fun b => binStr op a b
 | _ => none

def sliceF (size : Nat) (lo hi m : Bool) (x : AV) (r : List AV) : Option AV :=
 match x with
 | .wild a => (match bounds 0 0 lo hi m r with
  | some _ => some (.wild a)
  | none => none)
 | x => dSl x (fun b o len cap opn => match bounds len cap lo hi m r with
  | some (l, h, mm) => cond (Nat.beq mm l && Nat.beq cap mm && (opn && !m && !Nat.beq l 0)) (some (.rest b o (l * size))) (some (.sl b (o + cond (Nat.beq mm l) 0 (l * size)) (h - l) (mm - l) (cond m false opn)))
  | none => none) (match bounds 0 0 lo hi m r with
  | some _ => some .nils
  | none => none)

def pIF (o : POp) (args : List AV) : Option AV :=
 match o with
 | .mov => l1 args some
 | .pick => l3 args fun c a b => dBool c fun c => some (cond c a b)
 | .bin op => l2 args (binF op)
 | .eq k => l2 args fun x y => (eqA k x y).map .bool
 | .neq k => l2 args fun x y => (eqA k x y).map fun b => .bool !b
 | .not => l1 args fun x => dBool x fun b => some (.bool !b)
 | .neg => l1 args fun x => dInt x fun k n => some (.int k (k.wrap (0 - n)))
 | .strid => l1 args fun x => dStr x fun s => some (.str s)
 | .conv k => l1 args fun x => dInt x fun _ n => some (.int k (k.wrap n))
 | .field off n g => l1 args fun x => dAgg x fun cs => part cs off n g
 | .ext i => l1 args fun x => dTup x fun vs => vs[i]?
 | .nilchk => l1 args fun x => dPtr x fun b o => some (.ptr b o)
 | .faddr off => l1 args fun x => dPtr x fun b o => some (.ptr b (o + off))
 | .iaddrS size => l2 args fun x i => dSl x (fun b o len _ _ => dNat i fun i => cond (Nat.ble (i + 1) len) (some (.ptr b (o + i * size))) none) none
 | .iaddrA size len => l2 args fun x i => dPtr x fun b o => dNat i fun i => cond (Nat.ble (i + 1) len) (some (.ptr b (o + i * size))) none
 | .idxA size len g => l2 args fun x i => dAgg x fun cs => dNat i fun i => cond (Nat.ble (i + 1) len) (part cs (i * size) size g) none
 | .idxS => l2 args fun x i => dStr x fun s => dNat i fun i => (s[i]?).map fun b => .int .u8 b.toNat
 | .build zeros parts => (fill zeros parts args).map .agg
 | .mkiface t => l1 args fun x => some (.iface t x)
 | .mkfunc fn n => some (.func fn (args.take n) (args.drop n))
 | .lenS => l1 args fun x => match x with
  | .wild _ => some (.int .i64 0)
  | .rest _ _ _ => some (.int .i64 0)
  | x => dSl x (fun _ _ len _ _ => some (.int .i64 len)) (some (.int .i64 0))
 | .lenStr => l1 args fun x => dStr x fun s => some (.int .i64 s.length)
 | .lenA n => some (.int .i64 n)
 | .mx => lc args fun x r => fold2 max2 x r
 | .mn => lc args fun x r => fold2 min2 x r
 | .slice size lo hi m => lc args fun x r => sliceF size lo hi m x r
 | .sliceStr lo hi => lc args fun x r => dStr x fun s => match bounds s.length s.length lo hi false r with
  | some (l, h, _) => some (.str ((s.take h).drop l))
  | none => none
 | .sliceArr size len lo hi m => lc args fun x r => dPtr x fun b o => match bounds len len lo hi m r with
  | some (l, h, mm) => some (.sl b (o + cond (Nat.beq mm l) 0 (l * size)) (h - l) (mm - l) false)
  | none => none
 | .tassert t ok zero => l1 args fun x => match x with
  | .iface u v => cond (Nat.beq u t) (some (cond ok (.tup [v, .bool true]) v)) (cond ok (some (.tup [zero, .bool false])) none)
  | .nili => cond ok (some (.tup [zero, .bool false])) none
  | _ => none

theorem binF_eq (op : BinOp) (x y : AV) : binF op x y = binA op x y := by
 cases x <;> cases y <;> rfl

end Ads
end Go.Proofs.YtnlcabhfkpafmaaGreat

set_option linter.unusedSimpArgs false
set_option linter.unusedVariables false
namespace Go.Proofs.YtnlcabhfkpafmaaGreat
namespace Ads

/- Forcing. -/
section
variable {α : Type}
def putF {β : Type} (x : Option β) : Nat → Tr β → Nat → (Tr β → α) → α
 | 0, t, _, k => k t
 | f + 1, .nil, n, k => cond (Nat.beq n 0) (k (.node .nil x .nil))
   (cond (Nat.beq (n % 2) 1) (putF x f .nil (n / 2) fun l => k (.node l none .nil)) (putF x f .nil (n / 2 - 1) fun r => k (.node .nil none r)))
 | f + 1, .node l v r, n, k => cond (Nat.beq n 0) (k (.node l x r))
   (cond (Nat.beq (n % 2) 1) (putF x f l (n / 2) fun l => k (.node l v r)) (putF x f r (n / 2 - 1) fun r => k (.node l v r)))
theorem putF_eq {β : Type} (x : Option β) : ∀ (f : Nat) (t : Tr β) (n : Nat) (k : Tr β → α), putF x f t n k = k (Tr.put x f t n)
 | 0, t, n, k => rfl
 | f + 1, .nil, n, k => by
  simp only [putF, Tr.put]
  cases Nat.beq n 0
  ·cases Nat.beq (n % 2) 1 <;> simp [putF_eq x f, Tr.left, Tr.right, Tr.val]
  ·rfl
 | f + 1, .node l v r, n, k => by
  simp only [putF, Tr.put]
  cases Nat.beq n 0
  ·cases Nat.beq (n % 2) 1 <;> simp [putF_eq x f, Tr.left, Tr.right, Tr.val]
  ·rfl
end

def argsF {α : Type} : List AV → Nat → Env → (Env → α) → α
 | [], _, e, k => k e
 | v :: vs, i, e, k => putF (some v) (i + 1) e i fun e => argsF vs (i + 1) e k
theorem argsF_eq {α : Type} : ∀ (l : List AV) (i : Nat) (e : Env) (k : Env → α), argsF l i e k = k (Env.args l i e)
 | [], i, e, k => rfl
 | v :: vs, i, e, k => by simp [argsF, putF_eq, argsF_eq vs, Env.args, Tr.set]

def startF {α : Type} (n : Nat) (args : List AV) (k : Env → α) : α := argsF args 0 (Tr.full (Nat.log2 n + 1)) k
theorem startF_eq {α : Type} (n : Nat) (args : List AV) (k : Env → α) : startF n args k = k (Env.start n args) := argsF_eq _ _ _ _

def setF {α β : Type} (t : Tr β) (n : Nat) (x : β) (k : Tr β → α) : α := putF (some x) (n + 1) t n k
theorem setF_eq {α β : Type} (t : Tr β) (n : Nat) (x : β) (k : Tr β → α) : setF t n x k = k (t.set n x) := putF_eq _ _ _ _ _

def putE {α : Type} (e : Env) (d : Option Nat) (v : AV) (k : Env → α) : α := match d with
 | some d => setF e d v k
 | none => k e
theorem putE_eq {α : Type} (e : Env) (d : Option Nat) (v : AV) (k : Env → α) : putE e d v k = k (e.put d v) := by
 cases d <;> simp [putE, Env.put, setF_eq]

end Ads
end Go.Proofs.YtnlcabhfkpafmaaGreat

set_option linter.unusedSimpArgs false
set_option linter.unusedVariables false
namespace Go.Proofs.YtnlcabhfkpafmaaGreat
namespace Ads

/- Records of loops keep what they were made of. -/
end Ads
end Go.Proofs.YtnlcabhfkpafmaaGreat

set_option linter.unusedSimpArgs false
set_option linter.unusedVariables false
namespace Go.Proofs.YtnlcabhfkpafmaaGreat
namespace Ads

/- Comparing. -/
mutual
def AV.same : AV → AV → Bool
 | .bool a, .bool b => a == b
 | .int k n, .int k' m => cond (decide (k = k')) (decide (n = m)) false
 | .str s, .str t => s == t
 | .ptr b o, .ptr b' o' => Nat.beq b b' && Nat.beq o o'
 | .nilp, .nilp => true
 | .sl b o l c op, .sl b' o' l' c' op' => Nat.beq b b' && Nat.beq o o' && Nat.beq l l' && Nat.beq c c' && op == op'
 | .nils, .nils => true
 | .map b, .map b' => Nat.beq b b'
 | .nilm, .nilm => true
 | .func f a c, .func f' a' c' => decide (f = f') && sameL a a' && sameL c c'
 | .nilf, .nilf => true
 | .yield b, .yield b' => Nat.beq b b'
 | .iface t v, .iface t' v' => Nat.beq t t' && v.same v'
 | .nili, .nili => true
 | .agg cs, .agg cs' => sameL cs cs'
 | .tup cs, .tup cs' => sameL cs cs'
 | .rest b o k, .rest b' o' k' => Nat.beq b b' && Nat.beq o o' && Nat.beq k k'
 | _, _ => false
def sameL : List AV → List AV → Bool
 | [], [] => true
 | v :: vs, u :: us => v.same u && sameL vs us
 | _, _ => false
end

mutual
theorem AV.same_eq : ∀ {v u : AV}, v.same u = true → v = u := by
 intro v u h
 cases v <;> cases u <;> simp only [AV.same, Bool.and_eq_true, beq_iff_eq, Bool.false_eq_true, decide_eq_true_eq] at h <;>
  first
  | rfl
  | (obtain rfl := h; rfl)
  | (have := Nat.eq_of_beq_eq_true h; subst this; rfl)
  | (have h1 := Nat.eq_of_beq_eq_true h.1; have h2 := Nat.eq_of_beq_eq_true h.2; subst h1 h2; rfl)
  | (obtain ⟨⟨⟨⟨h1, h2⟩, h3⟩, h4⟩, h5⟩ := h; have := Nat.eq_of_beq_eq_true h1; have := Nat.eq_of_beq_eq_true h2; have := Nat.eq_of_beq_eq_true h3; have := Nat.eq_of_beq_eq_true h4; subst_vars; rfl)
  | (obtain ⟨⟨h1, h2⟩, h3⟩ := h; have := Nat.eq_of_beq_eq_true h1; have := Nat.eq_of_beq_eq_true h2; have := Nat.eq_of_beq_eq_true h3; subst_vars; rfl)
  | (rename_i k n k' m; by_cases hk : k = k' <;> simp [hk] at h; subst hk h; rfl)
  | (rw [sameL_eq h])
  | (obtain ⟨⟨h1, h2⟩, h3⟩ := h; rw [h1, sameL_eq h2, sameL_eq h3])
  | (obtain ⟨h1, h2⟩ := h; rw [Nat.eq_of_beq_eq_true h1, AV.same_eq h2])
theorem sameL_eq : ∀ {v u : List AV}, sameL v u = true → v = u := by
 intro v u h
 cases v <;> cases u <;> simp only [sameL, Bool.and_eq_true, Bool.false_eq_true] at h
 ·rfl
 ·rw [AV.same_eq h.1, sameL_eq h.2]
end

abbrev Orc := Nat → List AV → Heap → Option (AV × Heap)
section
variable (fs : Nat → Option AFunc) (ms : Nat → String → Option Nat) (orc : Orc)

end

section
variable {fs : Nat → Option AFunc} {ms : Nat → String → Option Nat} {orc : Orc}

theorem plain_heap : ∀ {l : List Ins} {rd : Bool} {e : Env} {h : Heap} {tr : List Mark1} {e' : Env} {h' : Heap}, plainL l = true → BS fs ms (.ops rd l e h) (.ops tr e' h') → h' = h
 | [], rd, e, h, tr, e', h', _, hb => by cases hb; rfl
 | i :: l, rd, e, h, tr, e', h', hp, hb => by
  simp only [plainL, Bool.and_eq_true] at hp
  cases hb with
  | off hw hl => exact plain_heap hp.2 hl
  | on hw ho hl =>
   obtain ⟨d, gd, op, as⟩ := i
   cases op <;> cases gd <;> simp at hp
   cases ho
   exact plain_heap hp hl

end
end Ads
end Go.Proofs.YtnlcabhfkpafmaaGreat

set_option linter.unusedSimpArgs false
set_option linter.unusedVariables false
namespace Go.Proofs.YtnlcabhfkpafmaaGreat
namespace Ads

def aIF (o : AOp) (args : List AV) : Option (Blk × (Nat → AV)) :=
 match o with
 | .alloc zeros => match args with
  | [] => some (.cells zeros true 0, fun b => .ptr b 0)
  | _ => none
 | .box => l1 args fun v => some (.cells v.cells true 0, fun b => .ptr b 0)
 | o => aI o args
theorem aIF_eq (o : AOp) (args : List AV) : aIF o args = aI o args := by
 cases o
 case alloc z => cases args <;> rfl
 case box => rcases args with _ | ⟨x, _ | ⟨y, r⟩⟩ <;> rfl
 all_goals rfl

section
variable (fs : Nat → Option AFunc) (ms : Nat → String → Option Nat) (orc : Orc)
end
end Ads
end Go.Proofs.YtnlcabhfkpafmaaGreat

set_option linter.unusedSimpArgs false
set_option linter.unusedVariables false
namespace Go.Proofs.YtnlcabhfkpafmaaGreat
namespace Ads

def AllT (q : Nat → AFunc → Prop) : List (Nat × AFunc) → Prop
 | [] => True
 | p :: l => q p.1 p.2 ∧ AllT q l

def ofL : List (Nat × AFunc) → Tr AFunc
 | [] => .nil
 | p :: l => (ofL l).set p.1 p.2

theorem ofL_get {q : Nat → AFunc → Prop} : ∀ {l : List (Nat × AFunc)}, AllT q l → ∀ {f : Nat} {af : AFunc}, (ofL l).get f = some af → q f af
 | [], _, f, af, h => by simp [ofL, Tr.get] at h
 | p :: l, hq, f, af, h => by
  simp only [ofL, Tr.get_set] at h
  split at h
  ·rename_i he
   cases h
   rw [he]
   exact hq.1
  ·exact ofL_get hq.2 h

section
variable {P : Program} {fs : Nat → Option AFunc} {ms : Nat → String → Option Nat}

structure Kept (w w' : World) : Prop where
 size : w.heap.size ≤ w'.heap.size
 old : ∀ r : Nat, r < w.heap.size → w'.heap[r]? = w.heap[r]?
 tape : w'.tape = w.tape
 os : w'.os = w.os
 output : w'.output = w.output

end
end Ads
end Go.Proofs.YtnlcabhfkpafmaaGreat

set_option linter.unusedSimpArgs false
set_option linter.unusedVariables false
namespace Go.Proofs.YtnlcabhfkpafmaaGreat
namespace Ads

section
variable (fs : Nat → Option AFunc) (ms : Nat → String → Option Nat) (rd : Bool)

abbrev brn (t : Bool) (A B : Prop) : Prop := @Bool.rec (fun _ => Prop) B A t
end

section
variable {fs : Nat → Option AFunc} {ms : Nat → String → Option Nat} {rd : Bool}

theorem br {t : Bool} {A B : Prop} (h1 : t = true → A) (h2 : t = false → B) : @Bool.rec (fun _ => Prop) B A t := by
 cases t with
 | true => exact h1 rfl
 | false => exact h2 rfl

def sk : Nat → (Nat → Option AV) → Env
 | 0, _ => .nil
 | d + 1, g => .node (sk d fun j => g (2 * j + 1)) (g 0) (sk d fun j => g (2 * j + 2))

def kn (l : List (Nat × AV)) (g : Nat → Option AV) (i : Nat) : Option AV :=
 match l with
 | [] => g i
 | (j, v) :: r => cond (Nat.beq i j) (some v) (kn r g i)

def AllAt (e : Env) : List (Nat × AV) → Prop
 | [] => True
 | (i, v) :: l => Tr.get e i = some v ∧ AllAt e l

end
end Ads
end Go.Proofs.YtnlcabhfkpafmaaGreat

