/-
  An evaluator of big steps for Lean's kernel: continuations, data worked out before it is handed on. It is sound.
-/
import Derived.Test.YtflmbknimebmnaaAdsMain
set_option linter.unusedSimpArgs false
set_option linter.unusedVariables false
namespace Go.Proofs.Ytflmbknimebmnaa
namespace Ads

/- Forcing. -/
section
variable {α : Type}
def fNat (n : Nat) (k : Nat → α) : α := match n with
  | 0 => k 0
  | m + 1 => k (Nat.succ m)
theorem fNat_eq (n : Nat) (k : Nat → α) : fNat n k = k n := by cases n <;> rfl
def fInt (n : Int) (k : Int → α) : α := match n with
  | .ofNat m => fNat m fun m => k (.ofNat m)
  | .negSucc m => fNat m fun m => k (.negSucc m)
theorem fInt_eq (n : Int) (k : Int → α) : fInt n k = k n := by cases n <;> simp [fInt, fNat_eq]
def fBool (b : Bool) (k : Bool → α) : α := match b with
  | true => k true
  | false => k false
theorem fBool_eq (b : Bool) (k : Bool → α) : fBool b k = k b := by cases b <;> rfl
/-- A value that holds no others. -/
def fS (v : AV) (k : AV → α) : α := match v with
  | .bool b => fBool b fun b => k (.bool b)
  | .int kd n => fInt n fun n => k (.int kd n)
  | .ptr b o => fNat b fun b => fNat o fun o => k (.ptr b o)
  | .sl b o l c op => fNat b fun b => fNat o fun o => fNat l fun l => fNat c fun c => fBool op fun op => k (.sl b o l c op)
  | .map b => fNat b fun b => k (.map b)
  | .yield b => fNat b fun b => k (.yield b)
  | .str s => k (.str s)
  | .nilp => k .nilp
  | .nils => k .nils
  | .nilm => k .nilm
  | .func a b c => k (.func a b c)
  | .nilf => k .nilf
  | .iface t v => k (.iface t v)
  | .nili => k .nili
  | .agg cs => k (.agg cs)
  | .tup cs => k (.tup cs)
theorem fS_eq (v : AV) (k : AV → α) : fS v k = k v := by cases v <;> simp [fS, fNat_eq, fInt_eq, fBool_eq]
def fL : List AV → (List AV → α) → α
  | [], k => k []
  | v :: vs, k => fS v fun v => fL vs fun vs => k (v :: vs)
theorem fL_eq : ∀ (l : List AV) (k : List AV → α), fL l k = k l
  | [], k => rfl
  | v :: vs, k => by simp [fL, fS_eq, fL_eq vs]
def fB : List UInt8 → (List UInt8 → α) → α
  | [], k => k []
  | v :: vs, k => fB vs fun vs => k (v :: vs)
theorem fB_eq : ∀ (l : List UInt8) (k : List UInt8 → α), fB l k = k l
  | [], k => rfl
  | v :: vs, k => by simp [fB, fB_eq vs]
def fV (v : AV) (k : AV → α) : α := match v with
  | .agg cs => fL cs fun cs => k (.agg cs)
  | .tup cs => fL cs fun cs => k (.tup cs)
  | .iface t v => fS v fun v => k (.iface t v)
  | .str s => fB s fun s => k (.str s)
  | .func f a b => fL a fun a => fL b fun b => k (.func f a b)
  | v => fS v k
theorem fV_eq (v : AV) (k : AV → α) : fV v k = k v := by cases v <;> simp [fV, fS_eq, fL_eq, fB_eq]
def putF {β : Type} (x : Option β) : Nat → Tr β → Nat → (Tr β → α) → α
  | 0, t, _, k => k t
  | f + 1, .nil, n, k => cond (Nat.beq n 0) (k (.node .nil x .nil))
      (cond (Nat.beq (n % 2) 1) (putF x f .nil (n / 2) fun l => k (.node l none .nil)) (putF x f .nil (n / 2 - 1) fun r => k (.node .nil none r)))
  | f + 1, .node l v r, n, k => cond (Nat.beq n 0) (k (.node l x r))
      (cond (Nat.beq (n % 2) 1) (putF x f l (n / 2) fun l => k (.node l v r)) (putF x f r (n / 2 - 1) fun r => k (.node l v r)))
theorem putF_eq {β : Type} (x : Option β) : ∀ (f : Nat) (t : Tr β) (n : Nat) (k : Tr β → α), putF x f t n k = k (Tr.put x f t n)
  | 0, t, n, k => rfl
  | f + 1, .nil, n, k => by
    simp only [putF, Tr.put]
    cases Nat.beq n 0
    · cases Nat.beq (n % 2) 1 <;> simp [putF_eq x f, Tr.left, Tr.right, Tr.val]
    · rfl
  | f + 1, .node l v r, n, k => by
    simp only [putF, Tr.put]
    cases Nat.beq n 0
    · cases Nat.beq (n % 2) 1 <;> simp [putF_eq x f, Tr.left, Tr.right, Tr.val]
    · rfl
end

def argsF {α : Type} : List AV → Nat → Env → (Env → α) → α
  | [], _, e, k => k e
  | v :: vs, i, e, k => putF (some v) (i + 1) e i fun e => argsF vs (i + 1) e k
theorem argsF_eq {α : Type} : ∀ (l : List AV) (i : Nat) (e : Env) (k : Env → α), argsF l i e k = k (Env.args l i e)
  | [], i, e, k => rfl
  | v :: vs, i, e, k => by simp [argsF, putF_eq, argsF_eq vs, Env.args, Tr.set]

def startF {α : Type} (n : Nat) (args : List AV) (k : Env → α) : α := argsF args 0 (Tr.full (Nat.log2 n + 1)) k
theorem startF_eq {α : Type} (n : Nat) (args : List AV) (k : Env → α) : startF n args k = k (Env.start n args) := argsF_eq _ _ _ _

/-- A value's outermost layer worked out. -/
def fC {α : Type} (v : AV) (k : AV → α) : α := match v with
  | .bool b => k (.bool b)
  | .int kd n => k (.int kd n)
  | .ptr b o => k (.ptr b o)
  | .sl b o l c op => k (.sl b o l c op)
  | .map b => k (.map b)
  | .yield b => k (.yield b)
  | .str s => k (.str s)
  | .nilp => k .nilp
  | .nils => k .nils
  | .nilm => k .nilm
  | .func a b c => k (.func a b c)
  | .nilf => k .nilf
  | .iface t v => k (.iface t v)
  | .nili => k .nili
  | .agg cs => k (.agg cs)
  | .tup cs => k (.tup cs)
theorem fC_eq {α : Type} (v : AV) (k : AV → α) : fC v k = k v := by cases v <;> rfl

/-- The trie with its parts worked out: 'node' of a trie that is written out is written out. -/
def setF {α β : Type} (t : Tr β) (n : Nat) (x : β) (k : Tr β → α) : α := putF (some x) (n + 1) t n k
theorem setF_eq {α β : Type} (t : Tr β) (n : Nat) (x : β) (k : Tr β → α) : setF t n x k = k (t.set n x) := putF_eq _ _ _ _ _

def putE {α : Type} (e : Env) (d : Option Nat) (v : AV) (k : Env → α) : α := match d with
  | some d => setF e d v k
  | none => k e
theorem putE_eq {α : Type} (e : Env) (d : Option Nat) (v : AV) (k : Env → α) : putE e d v k = k (e.put d v) := by
  cases d <;> simp [putE, Env.put, setF_eq]

def newF {α : Type} (h : Heap) (x : Blk) (k : Heap → α) : α :=
  match x with
  | .cells vs wr es => fL vs fun vs => setF h.m h.next (.cells vs wr es) fun m => fNat (h.next + 1) fun n => k ⟨n, m⟩
  | x => setF h.m h.next x fun m => fNat (h.next + 1) fun n => k ⟨n, m⟩
theorem newF_eq {α : Type} (h : Heap) (x : Blk) (k : Heap → α) : newF h x k = k (h.new x) := by
  cases x <;> simp [newF, fL_eq, setF_eq, fNat_eq, Heap.new]

def bsetF {α : Type} (h : Heap) (b : Nat) (x : Blk) (k : Heap → α) : α :=
  match x with
  | .cells vs wr es => fL vs fun vs => setF h.m b (.cells vs wr es) fun m => k ⟨h.next, m⟩
  | x => setF h.m b x fun m => k ⟨h.next, m⟩
theorem bsetF_eq {α : Type} (h : Heap) (b : Nat) (x : Blk) (k : Heap → α) : bsetF h b x k = k (h.set b x) := by
  cases x <;> simp [bsetF, fL_eq, setF_eq, Heap.set]

def delF {α : Type} (h : Heap) (b : Nat) (k : Heap → α) : α := putF none (b + 1) h.m b fun m => k ⟨h.next, m⟩
theorem delF_eq {α : Type} (h : Heap) (b : Nat) (k : Heap → α) : delF h b k = k (h.del b) := by
  simp [delF, putF_eq, Heap.del, Tr.del]

def storeF (h : Heap) (b o : Nat) (xs : List AV) (k : Heap → Bool) : Bool :=
  match h.get b with
  | some (.cells vs true es) => cond (Nat.ble (o + xs.length) vs.length && flatL xs) (bsetF h b (.cells (Heap.splice vs o xs) true es) k) false
  | _ => false
theorem storeF_eq (h : Heap) (b o : Nat) (xs : List AV) (k : Heap → Bool) : storeF h b o xs k = match h.storeN b o xs with | some h => k h | none => false := by
  unfold storeF Heap.storeN
  cases hg : h.get b with
  | none => rfl
  | some x =>
    cases x with
    | cells vs wr es =>
      cases wr with
      | true => simp only []; cases (Nat.ble (o + xs.length) vs.length && flatL xs) <;> simp [bsetF_eq]
      | false => rfl
    | _ => rfl

/-- An effect, its heap worked out. -/
def eIF (o : EOp) (args : List AV) (h : Heap) (k : AV → Heap → Bool) : Bool :=
  match o, args with
  | .store n, [.ptr b o, v] => cond (Nat.beq v.cells.length n) (storeF h b o v.cells fun h => k .undef h) false
  | .append size bytes, [s, x] => match srcCells size h x with
    | none => false
    | some (n, new) => cond (flatL new) (match s with
      | .nils => cond (Nat.beq n 0) (k .nils h)
          (cond (Nat.ble (n * bytes) 140737488355328 && Nat.ble n 9223372036854775807) (newF h (.cells new true size) fun h1 => k (.sl h.next 0 n n true) h1) false)
      | .sl b o len cap opn => cond (Nat.ble (len + n) cap)
          (storeF h b (o + len * size) new fun h => k (.sl b o (len + n) cap opn) h)
          (cond (Nat.ble ((len + n) * bytes) 140737488355328 && Nat.ble (len + n) 9223372036854775807)
            (match h.get b, h.loadN b o (len * size) with
            | some (.cells vs wr es), some old => cond opn
                (cond (wr && Nat.beq vs.length (o + len * size) && Nat.beq cap len && Nat.beq es size)
                  (delF h b fun h2 => newF h2 (.cells (old ++ new) true size) fun h1 => k (.sl h.next 0 (len + n) (len + n) true) h1) false)
                (newF h (.cells (old ++ new) true size) fun h1 => k (.sl h.next 0 (len + n) (len + n) true) h1)
            | _, _ => false) false)
      | _ => false) false
  | .copy size, [d, x] => match d, srcCells size h x with
    | .nils, some _ => k (.int .i64 0) h
    | .sl b o len _ _, some (n, new) => storeF h b o (new.take (min n len * size)) fun h => k (.int .i64 (min n len)) h
    | _, _ => false
  | _, _ => false

theorem eIF_sound {o : EOp} {args : List AV} {h : Heap} {k : AV → Heap → Bool} (hh : eIF o args h k = true) : ∃ v h1, eI o args h = some (v, h1) ∧ k v h1 = true := by
  unfold eIF at hh
  split at hh
  · rename_i n b o v
    simp only [eI]
    cases hb : Nat.beq v.cells.length n with
    | false => simp [hb] at hh
    | true =>
      simp only [hb, cond_true, storeF_eq] at hh ⊢
      cases hs : h.storeN b o v.cells with
      | none => simp [hs] at hh
      | some h1 => rw [hs] at hh; exact ⟨.undef, h1, rfl, hh⟩
  · rename_i size bytes s x
    simp only [eI]
    cases hsc : srcCells size h x with
    | none => simp [hsc] at hh
    | some p =>
      obtain ⟨n, new⟩ := p
      simp only [hsc] at hh ⊢
      cases hf : flatL new with
      | false => simp [hf] at hh
      | true =>
        simp only [hf, cond_true] at hh ⊢
        split at hh
        · cases h0 : Nat.beq n 0 with
          | true => rw [h0] at hh; exact ⟨_, _, rfl, hh⟩
          | false =>
            rw [h0] at hh
            simp only [cond_false, newF_eq] at hh ⊢
            cases hc : (Nat.ble (n * bytes) 140737488355328 && Nat.ble n 9223372036854775807) with
            | false => simp [hc] at hh
            | true => rw [hc] at hh; exact ⟨_, _, rfl, hh⟩
        · rename_i b o len cap opn
          cases hle : Nat.ble (len + n) cap with
          | true =>
            simp only [hle, cond_true, storeF_eq] at hh ⊢
            cases hs : h.storeN b (o + len * size) new with
            | none => simp [hs] at hh
            | some h1 => rw [hs] at hh; exact ⟨_, _, rfl, hh⟩
          | false =>
            simp only [hle, cond_false] at hh ⊢
            cases hc : (Nat.ble ((len + n) * bytes) 140737488355328 && Nat.ble (len + n) 9223372036854775807) with
            | false => simp [hc] at hh
            | true =>
              simp only [hc, cond_true] at hh ⊢
              split at hh
              · rename_i vs wr es old hg hl
                rw [hg, hl]
                simp only
                cases opn with
                | false => simp only [cond_false, newF_eq] at hh ⊢; exact ⟨_, _, rfl, hh⟩
                | true =>
                  simp only [cond_true] at hh ⊢
                  cases hw : (wr && Nat.beq vs.length (o + len * size) && Nat.beq cap len && Nat.beq es size) with
                  | false => simp [hw] at hh
                  | true =>
                    simp only [hw, cond_true, delF_eq, newF_eq] at hh ⊢
                    exact ⟨_, _, rfl, hh⟩
              · simp at hh
        · simp at hh
  · rename_i size d x
    simp only [eI]
    split at hh
    · rename_i q hq
      rw [hq]
      exact ⟨_, _, rfl, hh⟩
    · rename_i b o len cap opn n new hq
      rw [hq]
      simp only [storeF_eq] at hh ⊢
      cases hs : h.storeN b o (new.take (min n len * size)) with
      | none => simp [hs] at hh
      | some h1 => rw [hs] at hh; exact ⟨_, _, rfl, hh⟩
    · simp at hh
  · simp at hh

end Ads
end Go.Proofs.Ytflmbknimebmnaa
