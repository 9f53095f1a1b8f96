/-
  Calls that are known, as a table: each one on a part of a heap.
-/
import Derived.Test.YtmnolnoeibhjgaaGreatVsWp
set_option linter.unusedSimpArgs false
set_option linter.unusedVariables false
namespace Go.Proofs.YtmnolnoeibhjgaaGreat
namespace Ads

def ofB (n : Nat) (l : List (Nat × Blk)) : Heap := ⟨n, l.foldr (fun p t => Tr.set t p.1 p.2) .nil⟩
def look1 : List (Nat × Blk) → Nat → Option Blk
 | [], _ => none
 | p :: l, b => cond (Nat.beq b p.1) (some p.2) (look1 l b)
theorem ofB_get (n : Nat) : ∀ (l : List (Nat × Blk)) (b : Nat), (ofB n l).get b = look1 l b
 | [], b => by simp [ofB, Heap.get, Tr.get, look1]
 | p :: l, b => by
  have ih := ofB_get n l b
  show (Tr.set (l.foldr (fun p t => Tr.set t p.1 p.2) .nil) p.1 p.2).get b = _
  rw [Tr.get_set]
  show _ = cond (Nat.beq b p.1) (some p.2) (look1 l b)
  cases hb : Nat.beq b p.1 with
  | true => rw [if_pos (Nat.eq_of_beq_eq_true hb)]; rfl
  | false => rw [if_neg (by intro e; rw [e, Nat.beq_refl] at hb; simp at hb)]; exact ih

def sameP : List (AV × AV) → List (AV × AV) → Bool
 | [], [] => true
 | p :: l, q :: m => AV.same p.1 q.1 && AV.same p.2 q.2 && sameP l m
 | _, _ => false
theorem sameP_eq : ∀ {l m : List (AV × AV)}, sameP l m = true → l = m
 | [], [], _ => rfl
 | p :: l, q :: m, h => by
  simp only [sameP, Bool.and_eq_true] at h
  rw [Prod.ext (AV.same_eq h.1.1) (AV.same_eq h.1.2), sameP_eq h.2]
 | [], _ :: _, h => by simp [sameP] at h
 | _ :: _, [], h => by simp [sameP] at h
def sameN : List Nat → List Nat → Bool
 | [], [] => true
 | a :: l, b :: m => Nat.beq a b && sameN l m
 | _, _ => false
theorem sameN_eq : ∀ {l m : List Nat}, sameN l m = true → l = m
 | [], [], _ => rfl
 | a :: l, b :: m, h => by
  simp only [sameN, Bool.and_eq_true] at h
  rw [Nat.eq_of_beq_eq_true h.1, sameN_eq h.2]
 | [], _ :: _, h => by simp [sameN] at h
 | _ :: _, [], h => by simp [sameN] at h
def Blk.same : Blk → Blk → Bool
 | .cells a w e, .cells b x f => sameL a b && (cond w x !x) && Nat.beq e f
 | .map a bs c, .map b bs' c' => sameP a b && sameN bs bs' && Nat.beq c c'
 | _, _ => false
theorem Blk.same_eq {x y : Blk} (h : Blk.same x y = true) : x = y := by
 cases x <;> cases y <;> simp only [Blk.same, Bool.and_eq_true, Bool.false_eq_true] at h
 ·rename_i a w e b x f
  obtain ⟨⟨h1, h2⟩, h3⟩ := h
  rw [sameL_eq h1, Nat.eq_of_beq_eq_true h3]
  cases w <;> cases x <;> simp at h2 <;> rfl
 ·obtain ⟨⟨h1, h2⟩, h3⟩ := h
  rw [sameP_eq h1, sameN_eq h2, Nat.eq_of_beq_eq_true h3]
def isBlk (x : Option Blk) (y : Blk) : Bool := match x with
 | some x => Blk.same x y
 | none => false
theorem isBlk_eq {x : Option Blk} {y : Blk} (h : isBlk x y = true) : x = some y := by
 cases x with
 | none => simp [isBlk] at h
 | some x =>
  have e := Blk.same_eq (x := x) (y := y) (by simpa [isBlk] using h)
  rw [e]

structure Ent where
 f : Nat
 args : List AV
 n : Nat
 gl : List (Nat × Blk)
 v : AV
 n' : Nat
 ul : List (Nat × Blk)

def hasB : List (Nat × Blk) → Nat → Bool
 | [], _ => false
 | p :: l, b => cond (Nat.beq b p.1) true (hasB l b)
theorem look1_has : ∀ (l : List (Nat × Blk)) (b : Nat), (look1 l b).isSome = hasB l b
 | [], _ => rfl
 | p :: l, b => by
  simp only [look1, hasB]
  cases Nat.beq b p.1 with
  | true => rfl
  | false => exact look1_has l b
def allB (q : Nat → Blk → Bool) : List (Nat × Blk) → Bool
 | [] => true
 | p :: l => cond (q p.1 p.2) (allB q l) false
theorem allB_look {q : Nat → Blk → Bool} : ∀ {l : List (Nat × Blk)}, allB q l = true → ∀ {b : Nat} {x : Blk}, look1 l b = some x → q b x = true
 | [], _, b, x, hx => by simp [look1] at hx
 | p :: l, h, b, x, hx => by
  simp only [allB] at h
  cases hq : q p.1 p.2 with
  | false => rw [hq] at h; simp at h
  | true =>
   rw [hq] at h
   simp only [look1] at hx
   cases hb : Nat.beq b p.1 with
   | true =>
    rw [hb] at hx
    simp only [cond_true, Option.some.injEq] at hx
    rw [Nat.eq_of_beq_eq_true hb, ← hx]; exact hq
   | false => rw [hb] at hx; exact allB_look h hx

variable (fs : Nat → Option AFunc) (ms : Nat → String → Option Nat)
def EOk (e : Ent) : Prop := BS fs ms (.call e.f e.args (ofB e.n e.gl)) (.val e.v (ofB e.n' e.ul)) ∧
 allB (fun b _ => Nat.ble (b + 1) e.n' && (hasB e.gl b || Nat.ble e.n b)) e.ul = true

def delB : List (Nat × Blk) → Tr Blk → Tr Blk
 | [], t => t
 | p :: l, t => delB l (t.del p.1)
def setB : List (Nat × Blk) → Tr Blk → Tr Blk
 | [], t => t
 | p :: l, t => (setB l t).set p.1 p.2
theorem hasB_cons (p : Nat × Blk) (l : List (Nat × Blk)) (b : Nat) : hasB (p :: l) b = true ↔ b = p.1 ∨ hasB l b = true := by
 simp only [hasB]
 cases hb : Nat.beq b p.1 with
 | true => simp [Nat.eq_of_beq_eq_true hb]
 | false =>
  have : b ≠ p.1 := fun e => by rw [e, Nat.beq_refl] at hb; simp at hb
  simp [this]
theorem look1_ne {p : Nat × Blk} {l : List (Nat × Blk)} {b : Nat} (h : b ≠ p.1) : look1 (p :: l) b = look1 l b := by
 simp only [look1]
 cases hb : Nat.beq b p.1 with
 | true => exact absurd (Nat.eq_of_beq_eq_true hb) h
 | false => rfl
theorem look1_self {p : Nat × Blk} {l : List (Nat × Blk)} : look1 (p :: l) p.1 = some p.2 := by
 simp only [look1, Nat.beq_refl, cond_true]
theorem delB_get : ∀ (l : List (Nat × Blk)) (t : Tr Blk) (b : Nat), (delB l t).get b = if hasB l b = true then none else t.get b
 | [], t, b => by simp [delB, hasB]
 | p :: l, t, b => by
  rw [show delB (p :: l) t = delB l (t.del p.1) from rfl, delB_get l, Tr.get_del]
  by_cases h1 : hasB l b = true
  ·rw [if_pos h1, if_pos ((hasB_cons p l b).2 (.inr h1))]
  ·rw [if_neg h1]
   by_cases h2 : b = p.1
   ·rw [if_pos h2, if_pos ((hasB_cons p l b).2 (.inl h2))]
   ·rw [if_neg h2, if_neg (fun h => ((hasB_cons p l b).1 h).elim h2 h1)]
theorem setB_get : ∀ (l : List (Nat × Blk)) (t : Tr Blk) (b : Nat), (setB l t).get b = if hasB l b = true then look1 l b else t.get b
 | [], t, b => by simp [setB, hasB]
 | p :: l, t, b => by
  rw [show setB (p :: l) t = (setB l t).set p.1 p.2 from rfl, Tr.get_set]
  by_cases h2 : b = p.1
  ·rw [if_pos h2, if_pos ((hasB_cons p l b).2 (.inl h2)), h2, look1_self]
  ·rw [if_neg h2, setB_get l, look1_ne h2]
   by_cases h1 : hasB l b = true
   ·rw [if_pos h1, if_pos ((hasB_cons p l b).2 (.inr h1))]
   ·rw [if_neg h1, if_neg (fun h => ((hasB_cons p l b).1 h).elim h2 h1)]

def fits (e : Ent) (f : Nat) (args : List AV) (h : Heap) : Bool :=
 cond (Nat.beq f e.f) (cond (Nat.beq h.next e.n) (cond (sameL args e.args) (allB (fun b x => isBlk (h.get b) x) e.gl) false) false) false
def orcT : List Ent → Orc
 | [], _, _, _ => none
 | e :: l, f, args, h => cond (fits e f args h) (some (e.v, ⟨e.n', setB e.ul (delB e.gl h.m)⟩)) (orcT l f args h)
def AllE : List Ent → Prop
 | [] => True
 | e :: l => EOk fs ms e ∧ AllE l

variable {fs ms}
theorem orcT_ok : ∀ {l : List Ent}, AllE fs ms l → OrcOk fs ms (orcT l)
 | [], _, f, args, h, v, h1, hh => by simp [orcT] at hh
 | e :: l, hl, f, args, h, v, h1, hh => by
  simp only [orcT] at hh
  cases hf : fits e f args h with
  | false => rw [hf] at hh; exact orcT_ok hl.2 _ _ _ _ _ hh
  | true =>
   rw [hf] at hh
   simp only [cond_true, Option.some.injEq, Prod.mk.injEq] at hh
   obtain ⟨rfl, rfl⟩ := hh
   unfold fits at hf
   cases h1 : Nat.beq f e.f with
   | false => rw [h1] at hf; simp at hf
   | true =>
   cases h2 : Nat.beq h.next e.n with
   | false => rw [h1, h2] at hf; simp at hf
   | true =>
   cases h3 : sameL args e.args with
   | false => rw [h1, h2, h3] at hf; simp at hf
   | true =>
   rw [h1, h2, h3] at hf
   simp only [cond_true] at hf
   have h1 := Nat.eq_of_beq_eq_true h1
   have h2 := Nat.eq_of_beq_eq_true h2
   have h3 := sameL_eq h3
   subst h1 h3
   obtain ⟨⟨hb, hn⟩, _⟩ := hl
   have hsub : SubH (ofB e.n e.gl) h := by
    refine ⟨h2.symm, fun b x hx => ?_⟩
    rw [ofB_get] at hx
    exact isBlk_eq (allB_look hf hx)
   have hul : ∀ b, hasB e.ul b = true → b < e.n' ∧ (hasB e.gl b = true ∨ e.n ≤ b) := by
    intro b hb
    rw [← look1_has] at hb
    cases hx : look1 e.ul b with
    | none => rw [hx] at hb; simp at hb
    | some x =>
     have := allB_look hn hx
     simp only [Bool.and_eq_true, Bool.or_eq_true] at this
     refine ⟨by have := Nat.le_of_ble_eq_true this.1; omega, this.2.imp id fun t => Nat.le_of_ble_eq_true t⟩
   have hnone : ∀ b, hasB e.ul b = false → look1 e.ul b = none := by
    intro b hb
    rw [← look1_has] at hb
    cases hx : look1 e.ul b with
    | none => rfl
    | some x => rw [hx] at hb; simp at hb
   refine .frameU hsub hb rfl ?_ ?_
   ·intro b hlt
    show (setB e.ul (delB e.gl h.m)).get b = _
    rw [setB_get, delB_get, ofB_get, ofB_get, look1_has]
    by_cases hu : hasB e.ul b = true
    ·rw [if_pos hu]
     rcases (hul b hu).2 with hg | hg
     ·rw [if_pos hg]
     ·omega
    ·rw [if_neg hu, hnone b (by simpa using hu)]
     rfl
   ·intro b hge hno
    show (setB e.ul (delB e.gl h.m)).get b = _
    rw [setB_get, delB_get, ofB_get]
    by_cases hu : hasB e.ul b = true
    ·rw [if_pos hu]
     have := (hul b hu).1
     rw [if_pos (show b < (ofB e.n' e.ul).next from this)]
    ·rw [if_neg hu, hnone b (by simpa using hu)]
     have : h.m.get b = none := hno
     rw [this]
     simp

def orcN : List (Nat × Ent) → Orc
 | [], _, _, _ => none
 | p :: l, f, args, h => cond (Nat.beq h.next p.1) (orcT [p.2] f args h) (orcN l f args h)
def orcB : List (Nat × List (Nat × Ent)) → Orc
 | [], _, _, _ => none
 | p :: l, f, args, h => cond (Nat.beq f p.1) (orcN p.2 f args h) (orcB l f args h)
def AllN : List (Nat × Ent) → Prop
 | [] => True
 | p :: l => EOk fs ms p.2 ∧ AllN l
def AllBs : List (Nat × List (Nat × Ent)) → Prop
 | [] => True
 | p :: l => AllN (fs := fs) (ms := ms) p.2 ∧ AllBs l
theorem orcN_ok : ∀ {l : List (Nat × Ent)}, AllN (fs := fs) (ms := ms) l → OrcOk fs ms (orcN l)
 | [], _, f, args, h, v, h1, hh => by simp [orcN] at hh
 | p :: l, hl, f, args, h, v, h1, hh => by
  simp only [orcN] at hh
  cases hb : Nat.beq h.next p.1 with
  | true => rw [hb] at hh; exact orcT_ok (l := [p.2]) ⟨hl.1, trivial⟩ _ _ _ _ _ hh
  | false => rw [hb] at hh; exact orcN_ok hl.2 _ _ _ _ _ hh
theorem orcB_ok : ∀ {l : List (Nat × List (Nat × Ent))}, AllBs (fs := fs) (ms := ms) l → OrcOk fs ms (orcB l)
 | [], _, f, args, h, v, h1, hh => by simp [orcB] at hh
 | p :: l, hl, f, args, h, v, h1, hh => by
  simp only [orcB] at hh
  cases hb : Nat.beq f p.1 with
  | true => rw [hb] at hh; exact orcN_ok hl.1 _ _ _ _ _ hh
  | false => rw [hb] at hh; exact orcB_ok hl.2 _ _ _ _ _ hh

abbrev iv (n : Int) : AV := .int .i64 n
section
variable (fs : Nat → Option AFunc) (ms : Nat → String → Option Nat) (orc : Orc)
end
theorem pc_evo {orc : Orc} (ho : OrcOk fs ms orc) {f n : Nat} (he : evD fs ms orc n (.call f [] ⟨0, .nil⟩) isTrue = true) : PC fs ms f [] (.bool true) := by
 obtain ⟨h1, hb⟩ := ev_true ho (evD_true he)
 exact ⟨rfl, rfl, .bool true, ⟨0, .nil⟩, fun B => .closed hb rfl rfl, .clean rfl⟩
end Ads
end Go.Proofs.YtmnolnoeibhjgaaGreat
