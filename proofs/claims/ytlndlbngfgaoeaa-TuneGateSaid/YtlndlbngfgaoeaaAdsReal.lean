/-
  How abstract values, environments and heaps stand to the model's: 'real', 'Inv', 'Ext', and what follows for single steps on the heap.
-/
import Derived.Test.YtlndlbngfgaoeaaAdsDef
import Derived.WalkKit
namespace Go.Proofs.Ytlndlbngfgaoeaa
namespace Ads

structure Loc where
 blk : Nat
 off : Nat
 extra : Nat
 deriving Inhabited

abbrev Rho := Nat → Loc

mutual
def real (ρ : Rho) : AV → Value
 | .bool b => .bool b
 | .int k n => .int k n
 | .str s => .string ⟨s.toArray⟩
 | .ptr b o => .pointer (some ⟨(ρ b).blk, (ρ b).off + o, none⟩)
 | .nilp => .pointer none
 | .sl b o len cap opn => .slice (some ⟨(ρ b).blk, (ρ b).off + o, none⟩) len (cond opn (cap + (ρ b).extra) cap)
 | .nils => .slice none 0 0
 | .wild a => .slice (some a) 0 0
 | .map b => .map (some (ρ b).blk)
 | .nilm => .map none
 | .func fn first capt => .func fn (reals ρ first).toArray (reals ρ capt).toArray
 | .nilf => .nilFunc
 | .yield b => .func (.yield (ρ b).blk) #[] #[]
 | .iface t v => .iface t (real ρ v)
 | .nili => .nilIface
 | .agg cs => .agg (reals ρ cs).toArray
 | .tup vs => .tuple (reals ρ vs).toArray
 | .fz _ _ => .nilIface
 | .fp _ _ => .nilIface
 | .rest b o k => .slice (some ⟨(ρ b).blk, (ρ b).off + (o + cond (Nat.beq (ρ b).extra 0) 0 k), none⟩) 0 (ρ b).extra
def reals (ρ : Rho) : List AV → List Value
 | [] => []
 | v :: vs => real ρ v :: reals ρ vs
end

abbrev Dom := Nat → Prop

mutual
def AV.inD (D : Dom) : AV → Prop
 | .ptr b _ => D b
 | .sl b _ _ _ _ => D b
 | .rest b _ _ => D b
 | .map b => D b
 | .yield b => D b
 | .func fn first capt => (∀ l, fn ≠ .yield l) ∧ allD D first ∧ allD D capt
 | .iface _ v => v.inD D
 | .agg cs => allD D cs
 | .tup vs => allD D vs
 | .fz _ _ => False
 | .fp _ _ => False
 | _ => True
def allD (D : Dom) : List AV → Prop
 | [] => True
 | v :: vs => v.inD D ∧ allD D vs
end

theorem reals_eq (ρ : Rho) : ∀ l : List AV, reals ρ l = l.map (real ρ)
 | [] => by simp [reals]
 | v :: vs => by simp [reals, reals_eq ρ vs]

theorem allD_iff (D : Dom) : ∀ l : List AV, allD D l ↔ ∀ v ∈ l, v.inD D
 | [] => by simp [allD]
 | v :: vs => by simp [allD, allD_iff D vs]

mutual
theorem real_agree {ρ ρ' : Rho} {D : Dom} (h : ∀ b, D b → ρ' b = ρ b) : ∀ v : AV, v.inD D → real ρ' v = real ρ v
 | .bool _, _ | .int _ _, _ | .str _, _ | .nilp, _ | .nils, _ | .wild _, _ | .nilm, _ | .nilf, _ | .nili, _ => by simp [real]
 | .ptr b o, hv => by simp [real, h b (by simpa [AV.inD] using hv)]
 | .sl b o l c op, hv => by simp [real, h b (by simpa [AV.inD] using hv)]
 | .rest b o k, hv => by simp [real, h b (by simpa [AV.inD] using hv)]
 | .map b, hv => by simp [real, h b (by simpa [AV.inD] using hv)]
 | .yield b, hv => by simp [real, h b (by simpa [AV.inD] using hv)]
 | .func fn first capt, hv => by
  simp only [AV.inD] at hv
  simp only [real, reals_agree h first hv.2.1, reals_agree h capt hv.2.2]
 | .iface t v, hv => by
  simp only [AV.inD] at hv
  simp only [real, real_agree h v hv]
 | .agg cs, hv => by
  simp only [AV.inD] at hv
  simp only [real, reals_agree h cs hv]
 | .tup cs, hv => by
  simp only [AV.inD] at hv
  simp only [real, reals_agree h cs hv]
 | .fz _ _, hv => by simp only [AV.inD] at hv
 | .fp _ _, hv => by simp only [AV.inD] at hv
theorem reals_agree {ρ ρ' : Rho} {D : Dom} (h : ∀ b, D b → ρ' b = ρ b) : ∀ l : List AV, allD D l → reals ρ' l = reals ρ l
 | [], _ => by simp [reals]
 | v :: vs, hv => by
  simp only [allD] at hv
  simp only [reals, real_agree h v hv.1, reals_agree h vs hv.2]
end

mutual
theorem inD_mono {D D' : Dom} (h : ∀ b, D b → D' b) : ∀ v : AV, v.inD D → v.inD D'
 | .bool _, _ | .int _ _, _ | .str _, _ | .nilp, _ | .nils, _ | .wild _, _ | .nilm, _ | .nilf, _ | .nili, _ => by simp [AV.inD]
 | .ptr b o, hv => by simp only [AV.inD] at *; exact h _ hv
 | .sl b o l c op, hv => by simp only [AV.inD] at *; exact h _ hv
 | .rest b o k, hv => by simp only [AV.inD] at *; exact h _ hv
 | .map b, hv => by simp only [AV.inD] at *; exact h _ hv
 | .yield b, hv => by simp only [AV.inD] at *; exact h _ hv
 | .func fn first capt, hv => by
  simp only [AV.inD] at *
  exact ⟨hv.1, allD_mono h first hv.2.1, allD_mono h capt hv.2.2⟩
 | .iface t v, hv => by
  simp only [AV.inD] at *
  exact inD_mono h v hv
 | .agg cs, hv => by
  simp only [AV.inD] at *
  exact allD_mono h cs hv
 | .tup cs, hv => by
  simp only [AV.inD] at *
  exact allD_mono h cs hv
 | .fz _ _, hv => by simp only [AV.inD] at hv
 | .fp _ _, hv => by simp only [AV.inD] at hv
theorem allD_mono {D D' : Dom} (h : ∀ b, D b → D' b) : ∀ l : List AV, allD D l → allD D' l
 | [], _ => by simp [allD]
 | v :: vs, hv => by
  simp only [allD] at *
  exact ⟨inD_mono h v hv.1, allD_mono h vs hv.2⟩
end

theorem real_cells (ρ : Rho) (v : AV) : (real ρ v).cells = (reals ρ v.cells).toArray := by
 cases v <;> simp [real, Value.cells, AV.cells, reals]

theorem cells_inD {D : Dom} {v : AV} (h : v.inD D) : allD D v.cells := by
 cases v <;> simp_all [AV.cells, AV.inD, allD]

/- The trie. -/
namespace Tr
variable {α : Type}
theorem get_nil (n : Nat) : (Tr.nil : Tr α).get n = none := rfl
theorem get_zero (t : Tr α) : t.get 0 = t.val := by cases t <;> simp [get, val]
theorem get_odd (t : Tr α) (n : Nat) (h : n % 2 = 1) : t.get n = t.left.get (n / 2) := by
 cases t with
 | nil => simp [get, left]
 | node l v r =>
  have h0 : Nat.beq n 0 = false := by cases n with | zero => simp at h | succ n => rfl
  simp [get, left, h0, h]
theorem get_even (t : Tr α) (n : Nat) (h : n % 2 = 0) (h0 : n ≠ 0) : t.get n = t.right.get (n / 2 - 1) := by
 cases t with
 | nil => simp [get, right]
 | node l v r =>
  have h0 : Nat.beq n 0 = false := by cases n with | zero => simp at h0 | succ n => rfl
  have h1 : Nat.beq 0 1 = false := rfl
  simp [get, right, h0, h, h1]
theorem get_put (x : Option α) : ∀ (f : Nat) (t : Tr α) (n m : Nat), n < f → (put x f t n).get m = if m = n then x else t.get m := by
 intro f
 induction f with
 | zero => intro t n m h; omega
 | succ f ih =>
  intro t n m h
  unfold put
  by_cases hn : n = 0
  ·subst hn
   simp only [show Nat.beq 0 0 = true from rfl, cond_true]
   by_cases hm : m = 0
   ·subst hm; simp [get_zero, val]
   ·rw [if_neg hm]
    rcases Nat.mod_two_eq_zero_or_one m with h2 | h2
    ·rw [get_even _ _ h2 hm, get_even _ _ h2 hm]; rfl
    ·rw [get_odd _ _ h2, get_odd _ _ h2]; rfl
  ·have hb : Nat.beq n 0 = false := by cases n with | zero => simp at hn | succ n => rfl
   rcases Nat.mod_two_eq_zero_or_one n with h2 | h2
   ·have hc : Nat.beq (n % 2) 1 = false := by rw [h2]; rfl
    simp only [hb, hc, cond_false]
    by_cases hm : m = 0
    ·subst hm; rw [if_neg (by omega)]; simp [get_zero, val]
    ·rcases Nat.mod_two_eq_zero_or_one m with h3 | h3
     ·rw [get_even _ _ h3 hm, get_even t _ h3 hm]
      simp only [right]
      rw [ih _ _ _ (by omega)]
      by_cases he : m = n
      ·subst he; simp
      ·rw [if_neg he, if_neg (by omega)]
     ·rw [get_odd _ _ h3, get_odd t _ h3, if_neg (by omega)]; cases t <;> rfl
   ·have hc : Nat.beq (n % 2) 1 = true := by rw [h2]; rfl
    simp only [hb, hc, cond_false, cond_true]
    by_cases hm : m = 0
    ·subst hm; rw [if_neg (by omega)]; simp [get_zero, val]
    ·rcases Nat.mod_two_eq_zero_or_one m with h3 | h3
     ·rw [get_even _ _ h3 hm, get_even t _ h3 hm, if_neg (by omega)]; cases t <;> rfl
     ·rw [get_odd _ _ h3, get_odd t _ h3]
      simp only [left]
      rw [ih _ _ _ (by omega)]
      by_cases he : m = n
      ·subst he; simp
      ·rw [if_neg he, if_neg (by omega)]
theorem get_set (t : Tr α) (n m : Nat) (x : α) : (t.set n x).get m = if m = n then some x else t.get m := get_put _ _ _ _ _ (by omega)
theorem get_del (t : Tr α) (n m : Nat) : (t.del n).get m = if m = n then none else t.get m := get_put _ _ _ _ _ (by omega)
end Tr

namespace Heap
theorem get_new (h : Heap) (x : Blk) (b : Nat) : (h.new x).get b = if b = h.next then some x else h.get b := Tr.get_set _ _ _ _
theorem get_set (h : Heap) (c : Nat) (x : Blk) (b : Nat) : (h.set c x).get b = if b = c then some x else h.get b := Tr.get_set _ _ _ _
theorem get_del (h : Heap) (c : Nat) (b : Nat) : (h.del c).get b = if b = c then none else h.get b := Tr.get_del _ _ _
@[simp] theorem next_new (h : Heap) (x : Blk) : (h.new x).next = h.next + 1 := rfl
@[simp] theorem next_set (h : Heap) (c : Nat) (x : Blk) : (h.set c x).next = h.next := rfl
@[simp] theorem next_del (h : Heap) (c : Nat) : (h.del c).next = h.next := rfl
def wr (h : Heap) (b : Nat) : Bool :=
 match h.get b with
 | some (.cells _ wr _) => wr
 | some _ => true
 | none => false
theorem length_splice {α : Type} : ∀ (vs : List α) (o : Nat) (xs : List α), (splice vs o xs).length = vs.length
 | [], 0, [] => rfl
 | [], 0, _ :: _ => rfl
 | [], _ + 1, _ => rfl
 | v :: vs, 0, [] => rfl
 | _ :: vs, 0, _ :: xs => by simp [splice, length_splice vs 0 xs]
 | _ :: vs, o + 1, xs => by simp [splice, length_splice vs o xs]
theorem get_splice {α : Type} : ∀ (vs : List α) (o : Nat) (xs : List α) (i : Nat), o + xs.length ≤ vs.length →
  (splice vs o xs)[i]? = if o ≤ i ∧ i < o + xs.length then xs[i - o]? else vs[i]?
 | [], 0, [], i, _ => by simp [splice]
 | [], 0, _ :: _, i, h => by simp at h
 | [], _ + 1, _, i, h => by simp at h
 | v :: vs, 0, [], i, _ => by simp [splice]
 | _ :: vs, 0, x :: xs, i, h => by
  simp only [splice]
  cases i with
  | zero => simp
  | succ i =>
   simp only [List.getElem?_cons_succ]
   rw [get_splice vs 0 xs i (by simp at h ⊢; omega)]
   by_cases hi : i < xs.length
   ·rw [if_pos ⟨by omega, by omega⟩, if_pos ⟨by omega, by simp; omega⟩]; simp
   ·rw [if_neg (by omega), if_neg (by simp; omega)]
 | v :: vs, o + 1, xs, i, h => by
  simp only [splice]
  cases i with
  | zero => simp
  | succ i =>
   simp only [List.getElem?_cons_succ]
   rw [get_splice vs o xs i (by simp at h ⊢; omega)]
   by_cases hi : o ≤ i ∧ i < o + xs.length
   ·rw [if_pos hi, if_pos (by omega)]; congr 1; omega
   ·rw [if_neg hi, if_neg (by omega)]
end Heap

/- The heap's relation. 'rl': how a loop's record stands to the model's. -/
section
variable (P : Program) (H0 : Nat)

def loopReal (ρ : Rho) (D : Dom) (st : Nat) (pend : Option AX) (e : Env) (ps : List Nat) (a b : AC) (l : Loop) : Prop :=
 l.state = (match st with | 0 => .ready | 1 => .busy | 2 => .done | _ => .exhausted) ∧
 (match pend with
  | none => l.pending = none
  | some (.exit id) => l.pending = some (.exit id)
  | some .ret => l.pending = some .ret
  | _ => False) ∧
 (∀ i, l.tmps.getD i Go.undef = real ρ (e.get i)) ∧ (∀ i, (e.get i).inD D) ∧
 l.params.toList = ps ∧ compCode P l.assign = a ∧ compCode P l.body = b ∧ codeOk l.tmps.size a = true ∧ codeOk l.tmps.size b = true ∧ allBelow l.tmps.size ps = true

def blkReal (ρ : Rho) (D : Dom) (L : Loc) (x : Blk) (w : World) : Prop :=
 match x with
 | .cells vs wr es => ∃ c t fr, w.heap[L.blk]? = some (.cells c t fr) ∧
   (∀ i v, vs[i]? = some v → c[L.off + i]? = some (real ρ v) ∧ v.inD D) ∧
   (wr = true → H0 ≤ L.blk ∧ L.off + vs.length + L.extra * es ≤ c.size ∧ ∀ i, fr.1 ≤ i → i < fr.2 → c.size ≤ i)
 | .map es bs k => ∃ ms clock, w.heap[L.blk]? = some (.map ms clock) ∧ H0 ≤ L.blk ∧
   ms.toList.map (fun m => (m.key, m.val)) = es.map (fun p => (real ρ p.1, real ρ p.2)) ∧ (∀ p ∈ es, p.1.inD D ∧ p.2.inD D) ∧ clock = k ∧ ms.toList.map (fun m => m.born) = bs
 | .iter m since seen last => H0 ≤ L.blk ∧ D m ∧ L.off = 0 ∧ ∃ sn, w.heap[L.blk]? = some (.mapIter (some (ρ m).blk) since sn last) ∧ sn.toList = seen
 | .loop st pend e ps a b => H0 ≤ L.blk ∧ ∃ l, w.heap[L.blk]? = some (.loop l) ∧ loopReal P ρ D st pend e ps a b l
 | .defers => H0 ≤ L.blk ∧ w.heap[L.blk]? = some (.deferred (some []))

structure Inv (ρ : Rho) (D : Dom) (h : Heap) (w : World) : Prop where
 lt : ∀ b, D b → b < h.next
 top : ∀ b, h.next ≤ b → h.get b = none
 low : H0 ≤ w.heap.size
 blk : ∀ b x, D b → h.get b = some x → blkReal P H0 ρ D (ρ b) x w
 apart : ∀ b b', D b → D b' → b ≠ b' → h.wr b = true → h.get b' ≠ none → (ρ b).blk ≠ (ρ b').blk

structure Ext (ρ : Rho) (D : Dom) (h : Heap) (w : World) (ρ' : Rho) (h' : Heap) (w' : World) : Prop where
 next : h.next ≤ h'.next
 agree : ∀ b, D b → ρ' b = ρ b
 size : w.heap.size ≤ w'.heap.size
 frame : ∀ r, r < w.heap.size → (∀ b, D b → h.wr b = true → (ρ b).blk ≠ r) → w'.heap[r]? = w.heap[r]?
 aframe : ∀ b, b < h.next → ¬ D b → h'.get b = h.get b
 old : ∀ b, b < h.next → h'.get b ≠ none → h.get b ≠ none ∧ (h'.wr b = true → h.wr b = true)
 fresh : ∀ b, h.next ≤ b → b < h'.next → w.heap.size ≤ (ρ' b).blk ∨ ∃ b0, D b0 ∧ h.wr b0 = true ∧ (ρ b0).blk = (ρ' b).blk
 tape : w'.tape = w.tape
 os : w'.os = w.os
 output : w'.output = w.output
end

def grow (D : Dom) (n n' : Nat) : Dom := fun b => D b ∨ (n ≤ b ∧ b < n')

theorem grow_self (D : Dom) (n : Nat) : grow D n n = D := by
 funext b; simp only [grow, eq_iff_iff]; constructor
 ·rintro (h | h)
  ·exact h
  ·omega
 ·exact Or.inl
theorem grow_grow (D : Dom) {a b c : Nat} (h : a ≤ b) (h' : b ≤ c) : grow (grow D a b) b c = grow D a c := by
 funext x; simp only [grow, eq_iff_iff]; constructor
 ·rintro ((h | h) | h)
  ·exact .inl h
  ·exact .inr (by omega)
  ·exact .inr (by omega)
 ·rintro (h | h)
  ·exact .inl (.inl h)
  ·by_cases hx : x < b
   ·exact .inl (.inr ⟨h.1, hx⟩)
   ·exact .inr (by omega)

section
variable {P : Program} {H0 : Nat} {ρ ρ' ρ'' : Rho} {D : Dom} {h h' h'' : Heap} {w w' w'' : World}

theorem Heap.wr_some {b : Nat} (hw : h.wr b = true) : h.get b ≠ none := by
 unfold Heap.wr at hw; intro e; simp [e] at hw

theorem Ext.refl (ρ : Rho) (D : Dom) (h : Heap) (w : World) : Ext ρ D h w ρ h w where
 next := Nat.le_refl _
 agree := fun _ _ => rfl
 size := Nat.le_refl _
 frame := fun _ _ _ => rfl
 aframe := fun _ _ _ => rfl
 old := fun _ _ hb => ⟨hb, id⟩
 fresh := fun _ h1 h2 => by omega
 tape := rfl
 os := rfl
 output := rfl

theorem Ext.trans (hlt : ∀ b, D b → b < h.next) (x : Ext ρ D h w ρ' h' w')
  (y : Ext ρ' (grow D h.next h'.next) h' w' ρ'' h'' w'') : Ext ρ D h w ρ'' h'' w'' where
 next := Nat.le_trans x.next y.next
 agree := fun b hb => (y.agree b (.inl hb)).trans (x.agree b hb)
 size := Nat.le_trans x.size y.size
 frame := by
  intro r hr hb
  rw [y.frame r (Nat.lt_of_lt_of_le hr x.size), x.frame r hr hb]
  rintro b (hd | ⟨h1, h2⟩) hwr
  ·rw [x.agree b hd]
   refine hb b hd ?_
   exact (x.old b (hlt b hd) (Heap.wr_some hwr)).2 hwr
  ·rcases x.fresh b h1 h2 with hf | ⟨b0, hd, hwr0, he⟩
   ·omega
   ·rw [← he]; exact hb b0 hd hwr0
 aframe := by
  intro b hb hd
  rw [y.aframe b (Nat.lt_of_lt_of_le hb x.next), x.aframe b hb hd]
  rintro (h1 | h1)
  ·exact hd h1
  ·omega
 old := by
  intro b hb hn
  have h1 := y.old b (Nat.lt_of_lt_of_le hb x.next) hn
  have h2 := x.old b hb h1.1
  exact ⟨h2.1, fun hw => h2.2 (h1.2 hw)⟩
 fresh := by
  intro b h1 h2
  by_cases hb : b < h'.next
  ·rw [y.agree b (.inr ⟨h1, hb⟩)]
   exact x.fresh b h1 hb
  ·rcases y.fresh b (by omega) h2 with hf | ⟨b0, hd, hwr0, he⟩
   ·exact .inl (Nat.le_trans x.size hf)
   ·rcases hd with hd | ⟨h3, h4⟩
    ·refine .inr ⟨b0, hd, ?_, ?_⟩
     ·exact (x.old b0 (hlt b0 hd) (Heap.wr_some hwr0)).2 hwr0
     ·rw [← he, x.agree b0 hd]
    ·rw [← he]
     exact x.fresh b0 h3 h4
 tape := y.tape.trans x.tape
 os := y.os.trans x.os
 output := y.output.trans x.output

theorem blkReal_lt {L : Loc} {x : Blk} (hx : blkReal P H0 ρ D L x w) : L.blk < w.heap.size := by
 cases x with
 | cells vs wr es => obtain ⟨c, t, fr, hc, _⟩ := hx; exact (Array.getElem?_eq_some_iff.1 hc).1
 | map es bs k => obtain ⟨ms, k, hc, _⟩ := hx; exact (Array.getElem?_eq_some_iff.1 hc).1
 | iter m since seen last => obtain ⟨_, _, _, sn, hc, _⟩ := hx; exact (Array.getElem?_eq_some_iff.1 hc).1
 | loop st pend e ps a b => obtain ⟨_, l, hc, _⟩ := hx; exact (Array.getElem?_eq_some_iff.1 hc).1
 | defers => obtain ⟨_, hc⟩ := hx; exact (Array.getElem?_eq_some_iff.1 hc).1

theorem Inv.ltw (i : Inv P H0 ρ D h w) {b : Nat} (hd : D b) (hb : h.get b ≠ none) : (ρ b).blk < w.heap.size := by
 cases hx : h.get b with
 | none => exact absurd hx hb
 | some x => exact blkReal_lt (i.blk b x hd hx)

theorem Inv.wrlt (i : Inv P H0 ρ D h w) : ∀ b, D b → h.wr b = true → (ρ b).blk < w.heap.size := fun _ hd hw => i.ltw hd (Heap.wr_some hw)

theorem Inv.wrlow (i : Inv P H0 ρ D h w) {b : Nat} (hd : D b) (hw : h.wr b = true) : H0 ≤ (ρ b).blk := by
 have hn := Heap.wr_some hw
 cases hx : h.get b with
 | none => exact absurd hx hn
 | some x =>
  have := i.blk b x hd hx
  cases x with
  | cells vs wr es =>
   obtain ⟨c, t, fr, _, _, h3⟩ := this
   simp [Heap.wr, hx] at hw
   exact (h3 hw).1
  | map es bs k => obtain ⟨ms, k, _, h2, _⟩ := this; exact h2
  | iter m since seen last => exact this.1
  | loop st pend e ps a b => exact this.1
  | defers => exact this.1

theorem blkReal_keep {D' : Dom} {L : Loc} {x : Blk} (hx : blkReal P H0 ρ D L x w) (hD : ∀ b, D b → D' b) (ha : ∀ b, D b → ρ' b = ρ b) (hh : w'.heap[L.blk]? = w.heap[L.blk]?) :
  blkReal P H0 ρ' D' L x w' := by
 cases x with
 | cells vs wr es =>
  obtain ⟨c, t, fr, hc, h1, h2⟩ := hx
  refine ⟨c, t, fr, hh.trans hc, fun i v hv => ?_, h2⟩
  have := h1 i v hv
  exact ⟨by rw [real_agree ha v this.2]; exact this.1, inD_mono hD v this.2⟩
 | iter m since seen last =>
  obtain ⟨h0, h1, h3, sn, hc, h2⟩ := hx
  exact ⟨h0, hD m h1, h3, sn, by rw [ha m h1]; exact hh.trans hc, h2⟩
 | map es bs k =>
  obtain ⟨ms, k, hc, h0, h1, h2, h3⟩ := hx
  refine ⟨ms, k, hh.trans hc, h0, ?_, fun p hp => ⟨inD_mono hD _ (h2 p hp).1, inD_mono hD _ (h2 p hp).2⟩, h3⟩
  rw [h1]
  refine List.map_congr_left fun p hp => ?_
  rw [real_agree ha _ (h2 p hp).1, real_agree ha _ (h2 p hp).2]
 | loop st pend e ps a b =>
  obtain ⟨h0, l, hc, h1, h2, h3, h4, h5⟩ := hx
  exact ⟨h0, l, hh.trans hc, h1, h2, fun i => by rw [real_agree ha _ (h4 i)]; exact h3 i, fun i => inD_mono hD _ (h4 i), h5⟩
 | defers => exact ⟨hx.1, hh.trans hx.2⟩
end
end Ads
end Go.Proofs.Ytlndlbngfgaoeaa
