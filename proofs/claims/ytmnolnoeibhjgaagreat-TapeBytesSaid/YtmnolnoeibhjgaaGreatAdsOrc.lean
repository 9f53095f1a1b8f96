/-
  Calls that are known, as a table: each one on a part of a heap.
-/
import Derived.Test.YtmnolnoeibhjgaaGreatVsWp
set_option linter.unusedSimpArgs false
set_option linter.unusedVariables false
namespace Go.Proofs.YtmnolnoeibhjgaaGreat
namespace Ads

/-- A heap of these blocks, and no others. -/
def ofB (n : Nat) (l : List (Nat × Blk)) : Heap := ⟨n, l.foldr (fun p t => Tr.set t p.1 p.2) .nil⟩
def look1 : List (Nat × Blk) → Nat → Option Blk
  | [], _ => none
  | p :: l, b => cond (Nat.beq b p.1) (some p.2) (look1 l b)
theorem ofB_get (n : Nat) : ∀ (l : List (Nat × Blk)) (b : Nat), (ofB n l).get b = look1 l b
  | [], b => by simp [ofB, Heap.get, Tr.get, look1]
  | p :: l, b => by
    have ih := ofB_get n l b
    show (Tr.set (l.foldr (fun p t => Tr.set t p.1 p.2) .nil) p.1 p.2).get b = _
    rw [Tr.get_set]
    show _ = cond (Nat.beq b p.1) (some p.2) (look1 l b)
    cases hb : Nat.beq b p.1 with
    | true => rw [if_pos (Nat.eq_of_beq_eq_true hb)]; rfl
    | false => rw [if_neg (by intro e; rw [e, Nat.beq_refl] at hb; simp at hb)]; exact ih

def sameP : List (AV × AV) → List (AV × AV) → Bool
  | [], [] => true
  | p :: l, q :: m => AV.same p.1 q.1 && AV.same p.2 q.2 && sameP l m
  | _, _ => false
theorem sameP_eq : ∀ {l m : List (AV × AV)}, sameP l m = true → l = m
  | [], [], _ => rfl
  | p :: l, q :: m, h => by
    simp only [sameP, Bool.and_eq_true] at h
    rw [Prod.ext (AV.same_eq h.1.1) (AV.same_eq h.1.2), sameP_eq h.2]
  | [], _ :: _, h => by simp [sameP] at h
  | _ :: _, [], h => by simp [sameP] at h
def sameN : List Nat → List Nat → Bool
  | [], [] => true
  | a :: l, b :: m => Nat.beq a b && sameN l m
  | _, _ => false
theorem sameN_eq : ∀ {l m : List Nat}, sameN l m = true → l = m
  | [], [], _ => rfl
  | a :: l, b :: m, h => by
    simp only [sameN, Bool.and_eq_true] at h
    rw [Nat.eq_of_beq_eq_true h.1, sameN_eq h.2]
  | [], _ :: _, h => by simp [sameN] at h
  | _ :: _, [], h => by simp [sameN] at h
def Blk.same : Blk → Blk → Bool
  | .cells a w e, .cells b x f => sameL a b && (cond w x !x) && Nat.beq e f
  | .map a bs c, .map b bs' c' => sameP a b && sameN bs bs' && Nat.beq c c'
  | _, _ => false
theorem Blk.same_eq {x y : Blk} (h : Blk.same x y = true) : x = y := by
  cases x <;> cases y <;> simp only [Blk.same, Bool.and_eq_true, Bool.false_eq_true] at h
  · rename_i a w e b x f
    obtain ⟨⟨h1, h2⟩, h3⟩ := h
    rw [sameL_eq h1, Nat.eq_of_beq_eq_true h3]
    cases w <;> cases x <;> simp at h2 <;> rfl
  · obtain ⟨⟨h1, h2⟩, h3⟩ := h
    rw [sameP_eq h1, sameN_eq h2, Nat.eq_of_beq_eq_true h3]
def isBlk (x : Option Blk) (y : Blk) : Bool := match x with
  | some x => Blk.same x y
  | none => false
theorem isBlk_eq {x : Option Blk} {y : Blk} (h : isBlk x y = true) : x = some y := by
  cases x with
  | none => simp [isBlk] at h
  | some x =>
    have e := Blk.same_eq (x := x) (y := y) (by simpa [isBlk] using h)
    rw [e]

/-- A call: the function, its arguments, the blocks ahead of it, its result, these blocks and new ones behind it. -/
structure Ent where
  f : Nat
  args : List AV
  n : Nat
  gl : List (Nat × Blk)
  v : AV
  n' : Nat
  ul : List (Nat × Blk)

def hasB : List (Nat × Blk) → Nat → Bool
  | [], _ => false
  | p :: l, b => cond (Nat.beq b p.1) true (hasB l b)
theorem look1_has : ∀ (l : List (Nat × Blk)) (b : Nat), (look1 l b).isSome = hasB l b
  | [], _ => rfl
  | p :: l, b => by
    simp only [look1, hasB]
    cases Nat.beq b p.1 with
    | true => rfl
    | false => exact look1_has l b
def allB (q : Nat → Blk → Bool) : List (Nat × Blk) → Bool
  | [] => true
  | p :: l => cond (q p.1 p.2) (allB q l) false
theorem allB_look {q : Nat → Blk → Bool} : ∀ {l : List (Nat × Blk)}, allB q l = true → ∀ {b : Nat} {x : Blk}, look1 l b = some x → q b x = true
  | [], _, b, x, hx => by simp [look1] at hx
  | p :: l, h, b, x, hx => by
    simp only [allB] at h
    cases hq : q p.1 p.2 with
    | false => rw [hq] at h; simp at h
    | true =>
      rw [hq] at h
      simp only [look1] at hx
      cases hb : Nat.beq b p.1 with
      | true =>
        rw [hb] at hx
        simp only [cond_true, Option.some.injEq] at hx
        rw [Nat.eq_of_beq_eq_true hb, ← hx]; exact hq
      | false => rw [hb] at hx; exact allB_look h hx

variable (fs : Nat → Option AFunc) (ms : Nat → String → Option Nat)
/-- The entry is true; new blocks lie behind the old ones. -/
def EOk (e : Ent) : Prop := BS fs ms (.call e.f e.args (ofB e.n e.gl)) (.val e.v (ofB e.n' e.ul)) ∧
  allB (fun b _ => Nat.ble (b + 1) e.n' && (hasB e.gl b || Nat.ble e.n b)) e.ul = true

/-- Blocks are struck, others laid. -/
def delB : List (Nat × Blk) → Tr Blk → Tr Blk
  | [], t => t
  | p :: l, t => delB l (t.del p.1)
def setB : List (Nat × Blk) → Tr Blk → Tr Blk
  | [], t => t
  | p :: l, t => (setB l t).set p.1 p.2
theorem hasB_cons (p : Nat × Blk) (l : List (Nat × Blk)) (b : Nat) : hasB (p :: l) b = true ↔ b = p.1 ∨ hasB l b = true := by
  simp only [hasB]
  cases hb : Nat.beq b p.1 with
  | true => simp [Nat.eq_of_beq_eq_true hb]
  | false =>
    have : b ≠ p.1 := fun e => by rw [e, Nat.beq_refl] at hb; simp at hb
    simp [this]
theorem look1_ne {p : Nat × Blk} {l : List (Nat × Blk)} {b : Nat} (h : b ≠ p.1) : look1 (p :: l) b = look1 l b := by
  simp only [look1]
  cases hb : Nat.beq b p.1 with
  | true => exact absurd (Nat.eq_of_beq_eq_true hb) h
  | false => rfl
theorem look1_self {p : Nat × Blk} {l : List (Nat × Blk)} : look1 (p :: l) p.1 = some p.2 := by
  simp only [look1, Nat.beq_refl, cond_true]
theorem delB_get : ∀ (l : List (Nat × Blk)) (t : Tr Blk) (b : Nat), (delB l t).get b = if hasB l b = true then none else t.get b
  | [], t, b => by simp [delB, hasB]
  | p :: l, t, b => by
    rw [show delB (p :: l) t = delB l (t.del p.1) from rfl, delB_get l, Tr.get_del]
    by_cases h1 : hasB l b = true
    · rw [if_pos h1, if_pos ((hasB_cons p l b).2 (.inr h1))]
    · rw [if_neg h1]
      by_cases h2 : b = p.1
      · rw [if_pos h2, if_pos ((hasB_cons p l b).2 (.inl h2))]
      · rw [if_neg h2, if_neg (fun h => ((hasB_cons p l b).1 h).elim h2 h1)]
theorem setB_get : ∀ (l : List (Nat × Blk)) (t : Tr Blk) (b : Nat), (setB l t).get b = if hasB l b = true then look1 l b else t.get b
  | [], t, b => by simp [setB, hasB]
  | p :: l, t, b => by
    rw [show setB (p :: l) t = (setB l t).set p.1 p.2 from rfl, Tr.get_set]
    by_cases h2 : b = p.1
    · rw [if_pos h2, if_pos ((hasB_cons p l b).2 (.inl h2)), h2, look1_self]
    · rw [if_neg h2, setB_get l, look1_ne h2]
      by_cases h1 : hasB l b = true
      · rw [if_pos h1, if_pos ((hasB_cons p l b).2 (.inr h1))]
      · rw [if_neg h1, if_neg (fun h => ((hasB_cons p l b).1 h).elim h2 h1)]

def fits (e : Ent) (f : Nat) (args : List AV) (h : Heap) : Bool :=
  cond (Nat.beq f e.f) (cond (Nat.beq h.next e.n) (cond (sameL args e.args) (allB (fun b x => isBlk (h.get b) x) e.gl) false) false) false
def orcT : List Ent → Orc
  | [], _, _, _ => none
  | e :: l, f, args, h => cond (fits e f args h) (some (e.v, ⟨e.n', setB e.ul (delB e.gl h.m)⟩)) (orcT l f args h)
def AllE : List Ent → Prop
  | [] => True
  | e :: l => EOk fs ms e ∧ AllE l

variable {fs ms}
theorem orcT_ok : ∀ {l : List Ent}, AllE fs ms l → OrcOk fs ms (orcT l)
  | [], _, f, args, h, v, h1, hh => by simp [orcT] at hh
  | e :: l, hl, f, args, h, v, h1, hh => by
    simp only [orcT] at hh
    cases hf : fits e f args h with
    | false => rw [hf] at hh; exact orcT_ok hl.2 _ _ _ _ _ hh
    | true =>
      rw [hf] at hh
      simp only [cond_true, Option.some.injEq, Prod.mk.injEq] at hh
      obtain ⟨rfl, rfl⟩ := hh
      unfold fits at hf
      cases h1 : Nat.beq f e.f with
      | false => rw [h1] at hf; simp at hf
      | true =>
      cases h2 : Nat.beq h.next e.n with
      | false => rw [h1, h2] at hf; simp at hf
      | true =>
      cases h3 : sameL args e.args with
      | false => rw [h1, h2, h3] at hf; simp at hf
      | true =>
      rw [h1, h2, h3] at hf
      simp only [cond_true] at hf
      have h1 := Nat.eq_of_beq_eq_true h1
      have h2 := Nat.eq_of_beq_eq_true h2
      have h3 := sameL_eq h3
      subst h1 h3
      obtain ⟨⟨hb, hn⟩, _⟩ := hl
      have hsub : SubH (ofB e.n e.gl) h := by
        refine ⟨h2.symm, fun b x hx => ?_⟩
        rw [ofB_get] at hx
        exact isBlk_eq (allB_look hf hx)
      have hul : ∀ b, hasB e.ul b = true → b < e.n' ∧ (hasB e.gl b = true ∨ e.n ≤ b) := by
        intro b hb
        rw [← look1_has] at hb
        cases hx : look1 e.ul b with
        | none => rw [hx] at hb; simp at hb
        | some x =>
          have := allB_look hn hx
          simp only [Bool.and_eq_true, Bool.or_eq_true] at this
          refine ⟨by have := Nat.le_of_ble_eq_true this.1; omega, this.2.imp id fun t => Nat.le_of_ble_eq_true t⟩
      have hnone : ∀ b, hasB e.ul b = false → look1 e.ul b = none := by
        intro b hb
        rw [← look1_has] at hb
        cases hx : look1 e.ul b with
        | none => rfl
        | some x => rw [hx] at hb; simp at hb
      refine .frameU hsub hb rfl ?_ ?_
      · intro b hlt
        show (setB e.ul (delB e.gl h.m)).get b = _
        rw [setB_get, delB_get, ofB_get, ofB_get, look1_has]
        by_cases hu : hasB e.ul b = true
        · rw [if_pos hu]
          rcases (hul b hu).2 with hg | hg
          · rw [if_pos hg]
          · omega
        · rw [if_neg hu, hnone b (by simpa using hu)]
          rfl
      · intro b hge hno
        show (setB e.ul (delB e.gl h.m)).get b = _
        rw [setB_get, delB_get, ofB_get]
        by_cases hu : hasB e.ul b = true
        · rw [if_pos hu]
          have := (hul b hu).1
          rw [if_pos (show b < (ofB e.n' e.ul).next from this)]
        · rw [if_neg hu, hnone b (by simpa using hu)]
          have : h.m.get b = none := hno
          rw [this]
          simp

/-- The same, by functions and by the heap's next block. -/
def orcN : List (Nat × Ent) → Orc
  | [], _, _, _ => none
  | p :: l, f, args, h => cond (Nat.beq h.next p.1) (orcT [p.2] f args h) (orcN l f args h)
def orcB : List (Nat × List (Nat × Ent)) → Orc
  | [], _, _, _ => none
  | p :: l, f, args, h => cond (Nat.beq f p.1) (orcN p.2 f args h) (orcB l f args h)
def AllN : List (Nat × Ent) → Prop
  | [] => True
  | p :: l => EOk fs ms p.2 ∧ AllN l
def AllBs : List (Nat × List (Nat × Ent)) → Prop
  | [] => True
  | p :: l => AllN (fs := fs) (ms := ms) p.2 ∧ AllBs l
theorem orcN_ok : ∀ {l : List (Nat × Ent)}, AllN (fs := fs) (ms := ms) l → OrcOk fs ms (orcN l)
  | [], _, f, args, h, v, h1, hh => by simp [orcN] at hh
  | p :: l, hl, f, args, h, v, h1, hh => by
    simp only [orcN] at hh
    cases hb : Nat.beq h.next p.1 with
    | true => rw [hb] at hh; exact orcT_ok (l := [p.2]) ⟨hl.1, trivial⟩ _ _ _ _ _ hh
    | false => rw [hb] at hh; exact orcN_ok hl.2 _ _ _ _ _ hh
theorem orcB_ok : ∀ {l : List (Nat × List (Nat × Ent))}, AllBs (fs := fs) (ms := ms) l → OrcOk fs ms (orcB l)
  | [], _, f, args, h, v, h1, hh => by simp [orcB] at hh
  | p :: l, hl, f, args, h, v, h1, hh => by
    simp only [orcB] at hh
    cases hb : Nat.beq f p.1 with
    | true => rw [hb] at hh; exact orcN_ok hl.1 _ _ _ _ _ hh
    | false => rw [hb] at hh; exact orcB_ok hl.2 _ _ _ _ _ hh

/-- So many of one value, ahead of others. -/
def rp (x : AV) : Nat → List AV → List AV
  | 0, l => l
  | n + 1, l => x :: rp x n l
abbrev iv (n : Int) : AV := .int .i64 n
/-- Is that what was looked for? -/
def chk (e : Ent) (r : Res) : Bool := match r with
  | .val v H => cond (AV.same v e.v) (cond (Nat.beq H.next e.n') (cond (allB (fun b x => isBlk (H.get b) x) e.ul) (allB (fun b _ => hasB e.ul b || (H.get b).isNone) e.gl) false) false) false
  | _ => false
/-- The heap ahead of a call, worked out. -/
def fBlk (x : Blk) (k : Blk → Bool) : Bool := match x with
  | .cells vs wr es => fL vs fun vs => k (.cells vs wr es)
  | x => k x
theorem fBlk_eq (x : Blk) (k : Blk → Bool) : fBlk x k = k x := by cases x <;> simp [fBlk, fL_eq]
def startB : List (Nat × Blk) → (Tr Blk → Bool) → Bool
  | [], k => k .nil
  | p :: l, k => startB l fun t => fBlk p.2 fun x => setF t p.1 x k
theorem startB_eq : ∀ (l : List (Nat × Blk)) (k : Tr Blk → Bool), startB l k = k (l.foldr (fun p t => Tr.set t p.1 p.2) .nil)
  | [], k => rfl
  | p :: l, k => by simp only [startB, startB_eq l, fBlk_eq, setF_eq, List.foldr_cons]
theorem eok_of {orc : Orc} (ho : OrcOk fs ms orc) {n : Nat} {e : Ent} (h1 : startB e.gl (fun t => evD fs ms orc n (.call e.f e.args ⟨e.n, t⟩) (chk e)) = true)
    (h2 : allB (fun b _ => Nat.ble (b + 1) e.n' && (hasB e.gl b || Nat.ble e.n b)) e.ul = true) : EOk fs ms e := by
  refine ⟨?_, h2⟩
  rw [startB_eq] at h1
  obtain ⟨r, hr, hk⟩ := ev_sound ho n _ _ (evD_true h1)
  have hr : BS fs ms (.call e.f e.args (ofB e.n e.gl)) r := hr
  cases r with
  | val v H =>
    unfold chk at hk
    cases a1 : AV.same v e.v with
    | false => simp [a1] at hk
    | true =>
    cases a2 : Nat.beq H.next e.n' with
    | false => simp [a1, a2] at hk
    | true =>
    cases a3 : allB (fun b x => isBlk (H.get b) x) e.ul with
    | false => simp [a1, a2, a3] at hk
    | true =>
    simp only [a1, a2, a3, cond_true] at hk
    have e1 := AV.same_eq a1
    subst e1
    refine .forget ⟨(Nat.eq_of_beq_eq_true a2).symm, fun b x hx => ?_⟩ ?_ hr
    · rw [ofB_get] at hx
      exact isBlk_eq (allB_look a3 hx)
    · intro b _ hne
      rw [ofB_get] at hne ⊢
      cases hx : look1 e.gl b with
      | none => exact absurd hx hne
      | some x =>
        have := allB_look hk hx
        cases hu : look1 e.ul b with
        | some y => exact (isBlk_eq (allB_look a3 hu)).symm
        | none =>
          have hh : hasB e.ul b = false := by rw [← look1_has, hu]; rfl
          rw [hh] at this
          simp only [Bool.false_or, Option.isNone_iff_eq_none] at this
          exact this.symm
  | _ => simp [chk] at hk

section
variable (fs : Nat → Option AFunc) (ms : Nat → String → Option Nat) (orc : Orc)
def allC (k : AV → Heap → Bool) : List (AV × Heap) → Bool
  | [] => true
  | p :: l => cond (fV p.1 fun v => fHp p.2 fun h => k v h) (allC k l) false
def isNext (i : Ins) : Option (Option Nat × List Rand) := match i with
  | ⟨dst, none, .e .next, args⟩ => some (dst, args)
  | _ => none
/-- What the evaluator says of an operation list, ahead of its rest. -/
def kAny (k : AX → Env → Heap → Bool) (r : Res) : Bool := match r with
  | .code x e h => k x e h
  | _ => false
def kOne (k : AX → Env → Heap → Bool) (r : Res) : Bool := match r with
  | .ops _ e h => k .normal e h
  | _ => false
/-- Code that may come to one thing or another: all that it may come to is fine. -/
def evA (n : Nat) : Nat → Bool → AC → Env → Heap → (AX → Env → Heap → Bool) → Bool
  | 0, _, _, _, _, _ => false
  | m + 1, rd, c, e, h, k => match c with
    | .seq a b => evA n m rd a e h fun x e1 h1 => match x with
      | .normal => evA n m rd b e1 h1 k
      | x => k x e1 h1
    | .cond c a b => match e.ev c with
      | .bool t => evA n m rd (cond t a b) e h k
      | _ => false
    | .block id c => evA n m rd c e h fun x e1 h1 => match x with
      | .exit i => cond (Nat.beq i id) (k .normal e1 h1) (k (.exit i) e1 h1)
      | x => k x e1 h1
    | .loop c => evA n m rd c e h fun x e1 h1 => match x with
      | .normal => evA n m rd (.loop c) e1 h1 k
      | x => k x e1 h1
    | .ops [] => evD fs ms orc n (.code rd (.ops []) e h) (kAny k)
    | .ops (i :: l) => match isNext i with
      | some (dst, args) => match nextC (args.map e.ev) h with
        | some (p :: cs) => allC (fun v h1 => putE e dst v fun e1 => evD fs ms orc n (.ops rd l e1 h1) (kOne k)) (p :: cs)
        | _ => evD fs ms orc n (.code rd (.ops (i :: l)) e h) (kAny k)
      | none => evD fs ms orc n (.code rd (.ops (i :: l)) e h) (kAny k)
    | c => evD fs ms orc n (.code rd c e h) (kAny k)
end
theorem allC_mem {k : AV → Heap → Bool} : ∀ {l : List (AV × Heap)}, allC k l = true → ∀ p ∈ l, k p.1 p.2 = true
  | [], _, p, hp => by simp at hp
  | q :: l, h, p, hp => by
    simp only [allC, fV_eq, fHp_eq] at h
    cases hk : k q.1 q.2 with
    | false => rw [hk] at h; simp at h
    | true =>
      rw [hk] at h
      rcases List.mem_cons.1 hp with rfl | hp
      · exact hk
      · exact allC_mem h p hp
theorem isNext_eq {i : Ins} {dst : Option Nat} {args : List Rand} (h : isNext i = some (dst, args)) : i = ⟨dst, none, .e .next, args⟩ := by
  unfold isNext at h
  split at h
  · simp only [Option.some.injEq, Prod.mk.injEq] at h
    obtain ⟨rfl, rfl⟩ := h
    rfl
  · simp at h
theorem evA_sound {orc : Orc} (ho : OrcOk fs ms orc) (n : Nat) : ∀ (m : Nat) (rd : Bool) (c : AC) (e : Env) (h : Heap) (k : AX → Env → Heap → Bool), evA fs ms orc n m rd c e h k = true → BS fs ms (.any rd c e h) (.post fun x e h => k x e h = true)
  | 0, rd, c, e, h, k, hh => by simp [evA] at hh
  | m + 1, rd, c, e, h, k, hh => by
    have hd : ∀ {c : AC}, evD fs ms orc n (.code rd c e h) (kAny k) = true → BS fs ms (.any rd c e h) (.post fun x e h => k x e h = true) := by
      intro c hh
      obtain ⟨r, hr, hk⟩ := ev_sound ho n _ _ (evD_true hh)
      have hr : BS fs ms (.code rd c e h) r := hr
      cases r with
      | code x e1 h1 => exact .anyOne hr hk
      | _ => simp [kAny] at hk
    unfold evA at hh
    split at hh
    · refine .anySeq (evA_sound ho n m _ _ _ _ _ hh) (fun x e1 h1 hr hn => ?_) (fun e1 h1 hr => evA_sound ho n m _ _ _ _ _ hr)
      cases x <;> simp [AX.normal?] at hn <;> exact hr
    · split at hh
      · rename_i t ht
        exact .anyCond ht (evA_sound ho n m _ _ _ _ _ hh)
      · simp at hh
    · rename_i id c0
      refine .anyBlock (evA_sound ho n m _ _ _ _ _ hh) (fun x e1 h1 hr => ?_)
      cases x with
      | exit i =>
        simp only at hr
        show k (if i = _ then _ else _) e1 h1 = true
        cases hb : Nat.beq i id with
        | true => rw [hb] at hr; rw [if_pos (Nat.eq_of_beq_eq_true hb)]; exact hr
        | false => rw [hb] at hr; rw [if_neg (fun hi => by rw [hi, Nat.beq_refl] at hb; simp at hb)]; exact hr
      | _ => exact hr
    · refine .anyLoop (evA_sound ho n m _ _ _ _ _ hh) (fun x e1 h1 hr hn => ?_) (fun e1 h1 hr => evA_sound ho n m _ _ _ _ _ hr)
      cases x <;> simp [AX.normal?] at hn <;> exact hr
    · exact hd hh
    · rename_i i l
      split at hh
      · rename_i dst args hi
        have := isNext_eq hi
        subst this
        split at hh
        · rename_i p cs hc
          have hall := allC_mem hh
          have hone : ∀ q ∈ p :: cs, ∃ tr e' h', BS fs ms (.ops rd l (e.put dst q.1) q.2) (.ops tr e' h') ∧ k .normal e' h' = true := by
            intro q hq
            have := hall q hq
            rw [putE_eq] at this
            obtain ⟨r, hr, hk⟩ := ev_sound ho n _ _ (evD_true this)
            cases r with
            | ops tr e' h' => exact ⟨tr, e', h', hr, hk⟩
            | _ => simp [kOne] at hk
          classical
          let T : AV × Heap → List Mark1 := fun q => if hq : q ∈ p :: cs then Classical.choose (hone q hq) else []
          let E : AV × Heap → Env := fun q => if hq : q ∈ p :: cs then Classical.choose (Classical.choose_spec (hone q hq)) else e
          let H : AV × Heap → Heap := fun q => if hq : q ∈ p :: cs then Classical.choose (Classical.choose_spec (Classical.choose_spec (hone q hq))) else h
          have hT : ∀ q ∈ p :: cs, BS fs ms (.ops rd l (e.put dst q.1) q.2) (.ops (T q) (E q) (H q)) ∧ k .normal (E q) (H q) = true := by
            intro q hq
            simp only [T, E, H, dif_pos hq]
            exact Classical.choose_spec (Classical.choose_spec (Classical.choose_spec (hone q hq)))
          exact .anyNext T E H hc (by simp) (fun q hq => (hT q hq).1) (fun q hq => (hT q hq).2)
        · exact hd hh
      · exact hd hh
    · exact hd hh
/-- What is asked of a call's end. -/
def kCallA (af : AFunc) (e : Ent) (x : AX) (e1 : Env) (h1 : Heap) : Bool := match x with
  | .normal | .ret => match resAll e1 h1 af.results with
    | some vs => chk e (.val (resVal vs) h1)
    | none => false
  | _ => false
theorem chk_some {e : Ent} {v : AV} {H : Heap} (hk : chk e (.val v H) = true) : v = e.v ∧ SubH (ofB e.n' e.ul) H ∧ ∀ b, (ofB e.n e.gl).get b ≠ none → (ofB e.n' e.ul).get b = H.get b := by
  unfold chk at hk
  cases a1 : AV.same v e.v with
  | false => simp [a1] at hk
  | true =>
  cases a2 : Nat.beq H.next e.n' with
  | false => simp [a1, a2] at hk
  | true =>
  cases a3 : allB (fun b x => isBlk (H.get b) x) e.ul with
  | false => simp [a1, a2, a3] at hk
  | true =>
  simp only [a1, a2, a3, cond_true] at hk
  refine ⟨AV.same_eq a1, ⟨(Nat.eq_of_beq_eq_true a2).symm, fun b x hx => ?_⟩, ?_⟩
  · rw [ofB_get] at hx
    exact isBlk_eq (allB_look a3 hx)
  · intro b hne
    rw [ofB_get] at hne ⊢
    cases hx : look1 e.gl b with
    | none => exact absurd hx hne
    | some x =>
      have := allB_look hk hx
      cases hu : look1 e.ul b with
      | some y => exact (isBlk_eq (allB_look a3 hu)).symm
      | none =>
        have hh : hasB e.ul b = false := by rw [← look1_has, hu]; rfl
        rw [hh] at this
        simp only [Bool.false_or, Option.isNone_iff_eq_none] at this
        exact this.symm
/-- A call that may go one way or another, with one result. -/
theorem eok_any {orc : Orc} (ho : OrcOk fs ms orc) {n : Nat} {e : Ent} {af : AFunc} (hf : fs e.f = some af) (hlen : Nat.ble e.args.length af.ntmps = true)
    (h1 : startB e.gl (fun t => startF af.ntmps e.args fun e0 => evA fs ms orc n n false af.body e0 ⟨e.n, t⟩ (kCallA af e)) = true)
    (h2 : allB (fun b _ => Nat.ble (b + 1) e.n' && (hasB e.gl b || Nat.ble e.n b)) e.ul = true) : EOk fs ms e := by
  refine ⟨?_, h2⟩
  rw [startB_eq, startF_eq] at h1
  have hb := evA_sound ho n n _ _ _ _ _ h1
  refine .callAny hf (Nat.le_of_ble_eq_true hlen) hb (fun x e1 H hk => ?_)
  unfold kCallA at hk
  have key : (match resAll e1 H af.results with
    | some vs => chk e (.val (resVal vs) H)
    | none => false) = true → (∃ vs, resAll e1 H af.results = some vs ∧ resVal vs = e.v) ∧ SubH (ofB e.n' e.ul) H ∧ ∀ b, b < (ofB e.n e.gl).next → (ofB e.n e.gl).get b ≠ none → (ofB e.n' e.ul).get b = H.get b := by
    intro hk
    split at hk
    · rename_i vs hvs
      obtain ⟨g1, g2, g3⟩ := chk_some hk
      exact ⟨⟨vs, hvs, g1⟩, g2, fun b _ => g3 b⟩
    · simp at hk
  split at hk
  · exact ⟨.inl rfl, key hk⟩
  · exact ⟨.inr rfl, key hk⟩
  · simp at hk

/-- A closed call that the evaluator finds true, with calls that are known. -/
theorem pc_evo {orc : Orc} (ho : OrcOk fs ms orc) {f n : Nat} (he : evD fs ms orc n (.call f [] ⟨0, .nil⟩) isTrue = true) : PC fs ms f [] (.bool true) := by
  obtain ⟨h1, hb⟩ := ev_true ho (evD_true he)
  exact ⟨rfl, rfl, .bool true, ⟨0, .nil⟩, fun B => .closed hb rfl rfl, .clean rfl⟩
end Ads
end Go.Proofs.YtmnolnoeibhjgaaGreat
