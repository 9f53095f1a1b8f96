/-
  Room: a task's level, what it uses, a resource's ceiling: the program's answer and the document's. Room: what a task uses, a resource's ceiling: the program's answer and the document's. Room: a resource's ceiling: the program's answer and the document's. Room: whether an operation may be: the program's answer and the document's. Room: whether an operation may be: the program's answer. Room: rows of operations, whether a row may be; the time a guard is given. Room: the guards of sporadic tasks: the program's and the document's. Room: rows of operations that are consumed from their fronts. Room: rows of operations: what is left, what is next; the document's. Room: rows of operations: what is next; the document's rows. Room: rows of operations: the document's Ran and Left; new rows. Room: new rows of operations. Room: the program's jobs. Room: what a job does wrong; new jobs of the program. Room: the document's jobs. Room: the document's jobs enter and err.
-/
import Derived.Test.YtnlcabhfkpafmaaGreatZB
import Derived.Test.YtnlcabhfkpafmaaGreatZA
set_option maxRecDepth 100000
set_option linter.unusedSimpArgs false
set_option linter.unusedVariables false
set_option smartUnfolding false
namespace Go.Proofs.YtnlcabhfkpafmaaGreat
open Go Ads
namespace Ir

def inR (l : List Tk) (i : Int) : Bool := decide (0 ≤ i ∧ i < (l.length : Nat))
def dAt (l : List Tk) (i : Int) : Int := match l[i.toNat]? with | some t => t.d | none => 0
def above (l : List Tk) (d : Int) : Nat := l.countP (fun m => decide (m.d > d))
def lvl (l : List Tk) (i : Int) : Int := if inR l i = true then ((1 + above l (dAt l i) : Nat) : Int) else 0

theorem idx_tkR {l : List Tk} (k : Nat) {i : Int} (h0 : 0 ≤ i) (h1 : i < (l.length : Nat)) : ∃ t : Tk, pV (.iaddrS 8) [.fz k (tks l), .int .i64 i] = some (.fp (tk t).cells 0) ∧ l[i.toNat]? = some t := by
 have hj : i.toNat < l.length := by omega
 refine ⟨l[i.toNat], ?_, List.getElem?_eq_getElem hj⟩
 have := idx_tk (k := k) hj
 rwa [show ((i.toNat : Nat) : Int) = i by omega] at this

theorem above_le (l : List Tk) (d : Int) : above l d ≤ l.length := List.countP_le_length
theorem above_next {l : List Tk} {j : Nat} (hj : j < l.length) (d : Int) : above (l.take (j + 1)) d = above (l.take j) d + (if l[j].d > d then 1 else 0) := by
 rw [above, take_next hj, List.countP_append, List.countP_cons]
 simp [above]

theorem lvl_out {l : List Tk} {i : Int} (h : ¬ (0 ≤ i ∧ i < (l.length : Nat))) : lvl l i = 0 := by
 simp only [lvl, inR, h, decide_false, Bool.false_eq_true, if_false]
theorem lvl_in {l : List Tk} {i : Int} (h : 0 ≤ i ∧ i < (l.length : Nat)) {t : Tk} (ht : l[i.toNat]? = some t) : lvl l i = ((1 + above l t.d : Nat) : Int) := by
 simp only [lvl, inR, h, and_self, decide_true, if_true, dAt, ht]

theorem above_inc {l : List Tk} {j : Nat} (hj : j < l.length) (hl : l.length < 2 ^ 62) {d : Int} (h : l[j].d > d) : some (AV.int .i64 (IntKind.i64.wrap (((1 + above (l.take j) d : Nat) : Int) + 1))) = some (AV.int .i64 ((1 + above (l.take (j + 1)) d : Nat) : Int)) := by
 have h1 := above_le (l.take j) d
 have h2 : (l.take j).length = j := by rw [List.length_take]; omega
 rw [inc_val (by omega), above_next hj, if_pos h, ← Nat.add_assoc]
theorem above_same {l : List Tk} {j : Nat} (hj : j < l.length) {d : Int} (h : ¬ l[j].d > d) : some (AV.int .i64 ((1 + above (l.take j) d : Nat) : Int)) = some (AV.int .i64 ((1 + above (l.take (j + 1)) d : Nat) : Int)) := by
 rw [above_next hj, if_neg h, Nat.add_zero]

set_option smartUnfolding true in
theorem level_c (k : Nat) (l : List Tk) (hl : l.length < 2 ^ 62) (i : Int) : PC fs ms f_level_Level [.fz k (tks l), .int .i64 i] (.int .i64 (lvl l i)) := by
 refine pc_of (by simp [clL, AV.cl, cl_tks]) rfl ?_
 refine vd_start (af := C_level_Level) false rfl (yB rfl) ?_
 generalize hQ : (fun (v : AV) (_ : Heap) => v = .int .i64 (lvl l i)) = Q
 set_option smartUnfolding false in conv => whnf
 iterate 3 (all_goals (first | (refine br (fun hc => ?_) (fun hc => ?_) <;> (try rw [hc]) <;> (set_option smartUnfolding false in conv => whnf)) | skip))
 ·subst hQ
  simp at hc
  exact congrArg (AV.int .i64) (lvl_out (by omega)).symm
 ·subst hQ
  simp [len_tks] at hc
  exact congrArg (AV.int .i64) (lvl_out (by omega)).symm
 ·have h0 : 0 ≤ i := by simp at *; omega
  have h1 : i < (l.length : Nat) := by simp [len_tks] at hc; omega
  obtain ⟨t, t1, t2⟩ := idx_tkR k h0 h1
  refine vc_to0 5 [(0, .fz k (tks l)), (1, .int .i64 i), (5, .int .i64 ((1 + above (l.take 0) t.d : Nat) : Int)), (16, .fz k (tks l)), (17, .int .i64 (tks l).length), (18, .int .i64 ((0 : Nat) : Int))] (by repeat' (first | exact trivial | refine renAt_sl rfl (by omega) ?_ | refine renAt_ptr rfl (by omega) ?_ | refine renAt_yield rfl (by omega) ?_ | refine renAt_cl rfl (by first | rfl | simp [clL, AV.cl, cl_ints, cl_tks]) ?_ | refine renAt_cl (inc_slot (by omega)) rfl ?_)) ?_
  refine for_row 5 l.length (fun j => True) (fun j => [(0, .fz k (tks l)), (1, .int .i64 i), (5, .int .i64 ((1 + above (l.take j) t.d : Nat) : Int)), (16, .fz k (tks l)), (17, .int .i64 (tks l).length), (18, .int .i64 (j : Nat))]) ?_ ?_ trivial
  ·intro j hj _
   have hle := above_le (l.take j) t.d
   have hln : (l.take j).length = j := by rw [List.length_take]; omega
   set_option smartUnfolding false in conv => whnf
   refine br (fun hc => ?_) (fun hc => ?_) <;> (try rw [hc]) <;> (set_option smartUnfolding false in conv => whnf)
   ·refine ⟨_, idx_tk hj, ?_⟩
    set_option smartUnfolding false in conv => whnf
    refine ⟨_, t1, ?_⟩
    set_option smartUnfolding false in conv => whnf
    refine br (fun hc => ?_) (fun hc => ?_) <;> (try rw [hc]) <;> (set_option smartUnfolding false in conv => whnf)
    ·refine ⟨trivial, ⟨_, rfl, .cl (by simp [AV.cl, cl_tks])⟩, ⟨_, rfl, .cl rfl⟩, ⟨_, above_inc hj hl (of_decide_eq_true hc), .cl rfl⟩, ⟨_, rfl, .cl (by simp [AV.cl, cl_tks])⟩, ⟨_, rfl, .cl rfl⟩, ⟨_, inc_slot (by omega), .cl rfl⟩, trivial⟩
    ·refine ⟨trivial, ⟨_, rfl, .cl (by simp [AV.cl, cl_tks])⟩, ⟨_, rfl, .cl rfl⟩, ⟨_, above_same hj (of_decide_eq_false hc), .cl rfl⟩, ⟨_, rfl, .cl (by simp [AV.cl, cl_tks])⟩, ⟨_, rfl, .cl rfl⟩, ⟨_, inc_slot (by omega), .cl rfl⟩, trivial⟩
   ·exfalso
    have := of_decide_eq_false hc
    rw [len_tks] at this
    omega
  ·intro _
   set_option smartUnfolding false in conv => whnf
   refine br (fun hc => ?_) (fun hc => ?_) <;> (try rw [hc]) <;> (set_option smartUnfolding false in conv => whnf)
   ·exfalso
    have := of_decide_eq_true hc
    rw [len_tks] at this
    omega
   ·subst hQ
    rw [List.take_length]
    exact congrArg (AV.int .i64) (lvl_in ⟨h0, h1⟩ t2).symm

theorem bit_of (a : Int) (r : Nat) (hr : r < 8) : (BitVec.ofInt 64 a).getLsbD r = decide (a / 2 ^ r % 2 = 1) := by
 rw [BitVec.getLsbD, BitVec.toNat_ofInt, Nat.testBit_eq_decide_div_mod_eq]
 have : r = 0 ∨ r = 1 ∨ r = 2 ∨ r = 3 ∨ r = 4 ∨ r = 5 ∨ r = 6 ∨ r = 7 := by omega
 rw [decide_eq_decide]
 rcases this with h | h | h | h | h | h | h | h <;> subst h <;> simp only [Nat.reducePow, Int.reducePow, Nat.pow_zero, Int.pow_zero] <;> omega
theorem and_pow (a : Int) (r : Nat) (hr : r < 8) : (BitVec.ofInt 64 a &&& BitVec.twoPow 64 r).toNat = if a / 2 ^ r % 2 = 1 then 2 ^ r else 0 := by
 rw [BitVec.and_twoPow, bit_of a r hr]
 by_cases h : a / 2 ^ r % 2 = 1
 ·simp only [h, decide_true, if_true, BitVec.toNat_twoPow]
  refine Nat.mod_eq_of_lt ?_
  exact Nat.pow_lt_pow_right (by decide) (by omega)
 ·simp [h]

def usesT (t : Tk) (r : Nat) : Bool := decide (t.a / 2 ^ r % 2 = 1)
def uses (l : List Tk) (i r : Int) : Bool := if 0 ≤ i ∧ i < (l.length : Nat) ∧ 0 ≤ r ∧ r < 8 then (match l[i.toNat]? with | some t => usesT t r.toNat | none => false) else false
theorem uses_out {l : List Tk} {i r : Int} (h : ¬ (0 ≤ i ∧ i < (l.length : Nat) ∧ 0 ≤ r ∧ r < 8)) : uses l i r = false := by
 rw [uses, if_neg h]
theorem uses_in {l : List Tk} {i r : Int} (h : 0 ≤ i ∧ i < (l.length : Nat) ∧ 0 ≤ r ∧ r < 8) {t : Tk} (ht : l[i.toNat]? = some t) : uses l i r = usesT t r.toNat := by
 rw [uses, if_pos h, ht]

theorem eight {r : Nat} (hr : r < 8) : r = 0 ∨ r = 1 ∨ r = 2 ∨ r = 3 ∨ r = 4 ∨ r = 5 ∨ r = 6 ∨ r = 7 := by omega
theorem bin_shr8 (a : Int) {r : Int} (h0 : 0 ≤ r) (h1 : r < 8) : pV (.bin .shr) [.int .i64 a, .int .i64 r] = some (.int .i64 (a / 2 ^ r.toNat)) := by
 obtain ⟨n, rfl⟩ : ∃ n : Nat, r = n := ⟨r.toNat, by omega⟩
 rcases eight (r := n) (by omega) with h | h | h | h | h | h | h | h <;> subst h
 all_goals
  show some (AV.int .i64 _) = _
  refine congrArg (fun x => some (AV.int .i64 x)) ?_
  exact Int.fdiv_eq_ediv_of_nonneg _ (by decide)
theorem bin_shl8 {r : Int} (h0 : 0 ≤ r) (h1 : r < 8) : pV (.bin .shl) [.int .i64 1, .int .i64 r] = some (.int .i64 (2 ^ r.toNat)) := by
 obtain ⟨n, rfl⟩ : ∃ n : Nat, r = n := ⟨r.toNat, by omega⟩
 rcases eight (r := n) (by omega) with h | h | h | h | h | h | h | h <;> subst h <;> rfl
theorem and1 (x : Int) : IntKind.i64.wrap ((BitVec.ofInt 64 x &&& BitVec.ofInt 64 1).toNat : Int) = x % 2 := by
 have h := and_pow x 0 (by decide)
 rw [show BitVec.ofInt 64 1 = BitVec.twoPow 64 0 by decide, h]
 rcases Int.emod_two_eq x with h1 | h1
 ·simp [h1]; rfl
 ·simp [h1]; rfl
theorem and2 (a : Int) {n : Nat} (hn : n < 8) : (IntKind.i64.wrap ((BitVec.ofInt 64 a &&& BitVec.ofInt 64 (2 ^ n)).toNat : Int) != 0) = decide (a / 2 ^ n % 2 = 1) := by
 have h := and_pow a n hn
 rw [show BitVec.ofInt 64 (2 ^ n) = BitVec.twoPow 64 n by rcases eight hn with h | h | h | h | h | h | h | h <;> subst h <;> decide, h]
 by_cases h1 : a / 2 ^ n % 2 = 1
 ·rw [if_pos h1, decide_eq_true h1]
  rcases eight hn with h | h | h | h | h | h | h | h <;> subst h <;> decide
 ·rw [if_neg h1, decide_eq_false h1]
  decide

set_option smartUnfolding true in
theorem usesL_c (k : Nat) (l : List Tk) (hl : l.length < 2 ^ 62) (i r : Int) : PC fs ms f_level_Uses [.fz k (tks l), .int .i64 i, .int .i64 r] (.bool (uses l i r)) := by
 refine pc_of (by simp [clL, AV.cl, cl_tks]) rfl ?_
 refine vd_start (af := C_level_Uses) false rfl (yB rfl) ?_
 generalize hQ : (fun (v : AV) (_ : Heap) => v = .bool (uses l i r)) = Q
 set_option smartUnfolding false in conv => whnf
 iterate 5 (all_goals (first | (refine br (fun hc => ?_) (fun hc => ?_) <;> (try rw [hc]) <;> (set_option smartUnfolding false in conv => whnf)) | skip))
 case' refine_2.refine_2.refine_2.refine_2 =>
  have h0 : 0 ≤ i ∧ i < (l.length : Nat) ∧ 0 ≤ r ∧ r < 8 := by simp [len_tks] at *; omega
  obtain ⟨t, t1, t2⟩ := idx_tkR k h0.1 h0.2.1
  refine ⟨_, t1, ?_⟩
  set_option smartUnfolding false in conv => whnf
  refine ⟨_, bin_shl8 h0.2.2.1 h0.2.2.2, ?_⟩
  set_option smartUnfolding false in conv => whnf
  subst hQ
  rw [uses_in h0 t2]
  refine congrArg AV.bool ?_
  exact and2 t.a (by omega)
 all_goals (subst hQ; refine congrArg AV.bool (uses_out ?_).symm; simp [len_tks] at *; omega)
def maxN (g : Nat → Int) : Nat → Int
 | 0 => 0
 | n + 1 => max (maxN g n) (g n)
def ceilS (l : List Tk) (r : Int) (j : Nat) : Int := if uses l j r = true then lvl l j else 0
def ceil (l : List Tk) (r : Int) : Int := maxN (ceilS l r) l.length
set_option smartUnfolding true in
theorem ceil_yes {l : List Tk} {r : Int} {j : Nat} (h : uses l j r = true) : maxN (ceilS l r) (j + 1) = max (maxN (ceilS l r) j) (lvl l j) := by
 simp only [maxN, ceilS, if_pos h]
theorem mx_slot {a b c : Int} (h : max a b = c) : some (AV.int .i64 (cond (decide (b > a)) b a)) = some (AV.int .i64 c) := by
 subst h
 refine congrArg (fun x => some (AV.int .i64 x)) ?_
 by_cases h : b > a
 ·rw [decide_eq_true h]; show b = _; omega
 ·rw [decide_eq_false h]; show a = _; omega
set_option smartUnfolding true in
theorem highest_c {F : Nat} {capt : List AV} {g : Nat → Int} (k : Nat) (l : List Tk) (hl : l.length < 2 ^ 62) (hcap : clL capt = true) (hp : ∀ j (hj : j < l.length), PC fs ms F (.int .i64 (j : Nat) :: tk l[j] :: capt) (.int .i64 (g j))) :
  PC fs ms f_level_highest_api_Task [.fz k (tks l), .func (.func F) [] capt] (.int .i64 (maxN g l.length)) := by
 refine pc_of (by simp [clL, AV.cl, cl_tks, hcap]) rfl ?_
 refine vd_start (af := C_level_highest_api_Task) false rfl (yB rfl) ?_
 generalize hQ : (fun (v : AV) (_ : Heap) => v = .int .i64 (maxN g l.length)) = Q
 set_option smartUnfolding false in conv => whnf
 refine vc_to0 5 [(1, .func (.func F) [] capt), (4, .int .i64 (maxN g 0)), (7, .fz k (tks l)), (8, .int .i64 (tks l).length), (9, .int .i64 ((0 : Nat) : Int))] (by repeat' (first | exact trivial | refine renAt_sl rfl (by omega) ?_ | refine renAt_ptr rfl (by omega) ?_ | refine renAt_yield rfl (by omega) ?_ | refine renAt_cl rfl (by first | rfl | simp [clL, AV.cl, cl_ints, cl_tks, hcap]) ?_ | refine renAt_cl (inc_slot (by omega)) rfl ?_)) ?_
 refine for_row 5 l.length (fun j => True) (fun j => [(1, .func (.func F) [] capt), (4, .int .i64 (maxN g j)), (7, .fz k (tks l)), (8, .int .i64 (tks l).length), (9, .int .i64 (j : Nat))]) ?_ ?_ trivial
 ·intro j hj _
  set_option smartUnfolding false in conv => whnf
  refine br (fun hc => ?_) (fun hc => ?_) <;> (try rw [hc]) <;> (set_option smartUnfolding false in conv => whnf)
  ·refine ⟨_, idx_tk hj, ?_⟩
   set_option smartUnfolding false in conv => whnf
   refine vd_pure (hp j hj) ?_
   set_option smartUnfolding false in conv => whnf
   refine ⟨trivial, ⟨_, rfl, .cl (by simp [AV.cl, clL, hcap])⟩, ⟨_, mx_slot rfl, .cl rfl⟩, ⟨_, rfl, .cl (by simp [AV.cl, cl_tks])⟩, ⟨_, rfl, .cl rfl⟩, ⟨_, inc_slot (by omega), .cl rfl⟩, trivial⟩
  ·exfalso
   have := of_decide_eq_false hc
   rw [len_tks] at this
   omega
 ·intro _
  set_option smartUnfolding false in conv => whnf
  refine br (fun hc => ?_) (fun hc => ?_) <;> (try rw [hc]) <;> (set_option smartUnfolding false in conv => whnf)
  ·exfalso
   have := of_decide_eq_true hc
   rw [len_tks] at this
   omega
  ·subst hQ
   rfl
set_option smartUnfolding true in
theorem ceil1_c (k : Nat) (l : List Tk) (hl : l.length < 2 ^ 62) (r : Int) (j : Nat) (t : Tk) : PC fs ms f_level_Ceiling_1 [.int .i64 (j : Nat), tk t, .fp [.fz k (tks l)] 0, .fp [.int .i64 r] 0] (.int .i64 (ceilS l r j)) := by
 refine pc_of (by simp [clL, AV.cl, cl_tks, tk]) rfl ?_
 refine vd_start (af := C_level_Ceiling_1) false rfl (yB rfl) ?_
 generalize hQ : (fun (v : AV) (_ : Heap) => v = .int .i64 (ceilS l r j)) = Q
 set_option smartUnfolding false in conv => whnf
 refine vd_pure (usesL_c k l hl (j : Nat) r) ?_
 set_option smartUnfolding false in conv => whnf
 refine br (fun hc => ?_) (fun hc => ?_) <;> (try rw [hc]) <;> (set_option smartUnfolding false in conv => whnf)
 ·subst hQ
  refine congrArg (AV.int .i64) ?_
  simp at hc
  simp only [ceilS, hc, Bool.false_eq_true, if_false]
 ·refine vd_pure (level_c k l hl (j : Nat)) ?_
  set_option smartUnfolding false in conv => whnf
  subst hQ
  refine congrArg (AV.int .i64) ?_
  simp at hc
  simp only [ceilS, hc, if_true]
set_option smartUnfolding true in
theorem ceil_c (k : Nat) (l : List Tk) (hl : l.length < 2 ^ 62) (r : Int) : PC fs ms f_level_Ceiling [.fz k (tks l), .int .i64 r] (.int .i64 (ceil l r)) := by
 refine pc_of (by simp [clL, AV.cl, cl_tks]) rfl ?_
 refine vd_begin (af := C_level_Ceiling) rfl (yB rfl) ?_
 generalize hQ : (fun (v : AV) (_ : Heap) => v = .int .i64 (ceil l r)) = Q
 set_option smartUnfolding false in conv => whnf
 refine vc_seq false ?_
 set_option smartUnfolding false in conv => whnf
 refine vc_frz [0] (i := 2) (v' := .fp [.fz k (tks l)] 0) rfl (.ptr' (by simp) rfl (.clean (l := [.fz k (tks l)]) (by simp [clL, AV.cl, cl_tks]))) ?_
 refine vc_frz [1] (i := 3) (v' := .fp [.int .i64 r] 0) rfl (.ptr' (by simp) rfl (.clean rfl)) ?_
 refine vpC_sound (z := false) ?_
 set_option smartUnfolding false in conv => whnf
 refine vd_pure (highest_c (g := ceilS l r) k l hl (by simp [clL, AV.cl, cl_tks]) (fun j hj => ceil1_c k l hl r j _)) ?_
 set_option smartUnfolding false in conv => whnf
 subst hQ
 rfl
structure Op where
 k : Int
 n : Int
 s : List UInt8
def op (o : Op) : AV := .agg [.int .i64 o.k, .int .i64 o.n, .str o.s]
def ops (l : List Op) : List AV := l.map op
def opN (k n : Int) : Bool :=
 if k = 1 ∨ k = 8 then decide (1 ≤ n ∧ n ≤ 64) else if k = 2 ∨ k = 7 ∨ k = 6 then decide (0 ≤ n ∧ n ≤ 7) else if k = 3 ∨ k = 4 ∨ k = 5 then decide (n = 0) else false
def opS (k : Int) (s : List UInt8) : Bool := if k = 6 then decide (s.length ≤ 16) else decide (s.length = 0)
def opOk (o : Op) : Bool := opN o.k o.n && opS o.k o.s
def opChk (o : Op) : Int := if opOk o = true then 0 else 2

theorem opt_go {α : Type} {x : Option α} {v : α} {f : α → Prop} (hx : x = some v) (hf : f v) : @Option.rec α (fun _ => Prop) False f x := by
 subst hx; exact hf
def spLo (k : Int) : Int := if k = 1 ∨ k = 8 then 1 else 0
def spHi (k : Int) : Int := if k = 1 ∨ k = 8 then 64 else if k = 2 ∨ k = 6 ∨ k = 7 then 7 else 0
def spOn (k : Int) : Bool := decide (1 ≤ k ∧ k ≤ 8)
def spE (k lo hi : Int) : AV × AV := (.int .i64 k, .agg [.int .i64 lo, .int .i64 hi])
def spEs : List (AV × AV) := [spE 1 1 64, spE 8 1 64, spE 2 0 7, spE 6 0 7, spE 7 0 7, spE 3 0 0, spE 4 0 0, spE 5 0 0]
set_option smartUnfolding true in
theorem sp_look {b : Nat} {h : Heap} (k : Int) (hg : h.get b = some (.map spEs)) : rV (.lookup true (.agg [.int .i64 0, .int .i64 0])) [.map b, .int .i64 k] h = some (.tup [.agg [.int .i64 (spLo k), .int .i64 (spHi k)], .bool (spOn k)]) := by
 show rI (.lookup true (.agg [.int .i64 0, .int .i64 0])) [.map b, .int .i64 k] h = _
 simp only [rI, hg]
 by_cases hk : 1 ≤ k ∧ k ≤ 8
 ·have : k = 1 ∨ k = 2 ∨ k = 3 ∨ k = 4 ∨ k = 5 ∨ k = 6 ∨ k = 7 ∨ k = 8 := by omega
  rcases this with h | h | h | h | h | h | h | h <;> subst h <;> rfl
 ·have h1 : findKey (.int .i64 k) spEs = some none := by
   have e : ∀ c : Int, 1 ≤ c → c ≤ 8 → eqScalar (.int .i64 k) (.int .i64 c) = some false := by
    intro c c1 c2
    show some (k == c) = some false
    refine congrArg some (beq_eq_false_iff_ne.2 ?_)
    omega
   simp only [spEs, spE, findKey, e _ (show (1 : Int) ≤ 1 by decide) (by decide), e 2 (by decide) (by decide), e 3 (by decide) (by decide), e 4 (by decide) (by decide), e 5 (by decide) (by decide), e 6 (by decide) (by decide), e 7 (by decide) (by decide), e 8 (by decide) (by decide)]
  rw [h1]
  simp only [spLo, spHi, spOn, hk, decide_false]
  rw [if_neg (by omega), if_neg (by omega), if_neg (by omega)]
  rfl
def spH0 (o : Op) : Heap := hk 1 [(0, .cells (op o).cells true 0)]
def spH (o : Op) : Heap := hk 4 [(0, .cells (op o).cells true 0), (1, .cells [.int .i64 1, .int .i64 64] true 0), (2, .cells [.int .i64 0, .int .i64 7] true 0), (3, .map spEs)]
theorem sp_c (o : Op) : VD fs ms f_act_spans [] (spH0 o) fun v h => v = .map 3 ∧ h = spH o := by
 refine vd_start (af := C_act_spans) false rfl (yB rfl) ?_
 generalize hQ : (fun (v : AV) (h : Heap) => v = .map 3 ∧ h = spH o) = Q
 conv => whnf
 refine ⟨_, _, rfl, ?_⟩
 conv => whnf
 refine ⟨_, _, rfl, ?_⟩
 conv => whnf
 refine ⟨_, _, rfl, ?_⟩
 conv => whnf
 refine ⟨_, _, rfl, ?_⟩
 conv => whnf
 refine ⟨_, _, rfl, ?_⟩
 conv => whnf
 refine ⟨_, _, rfl, ?_⟩
 conv => whnf
 refine ⟨_, _, rfl, ?_⟩
 conv => whnf
 refine ⟨_, _, rfl, ?_⟩
 conv => whnf
 subst hQ
 exact ⟨rfl, rfl⟩
theorem opOk_alt (o : Op) : opOk o = true ↔ (spOn o.k = true ∧ spLo o.k ≤ o.n ∧ o.n ≤ spHi o.k ∧ o.s.length ≤ if o.k = 6 then 16 else 0) := by
 obtain ⟨k, n, s⟩ := o
 simp only [opOk, opN, opS, spOn, spLo, spHi, Bool.and_eq_true, decide_eq_true_eq]
 generalize s.length = L
 by_cases hk : 1 ≤ k ∧ k ≤ 8
 ·have : k = 1 ∨ k = 2 ∨ k = 3 ∨ k = 4 ∨ k = 5 ∨ k = 6 ∨ k = 7 ∨ k = 8 := by omega
  rcases this with h | h | h | h | h | h | h | h <;> subst h <;> simp <;> omega
 ·rw [if_neg (by omega), if_neg (by omega), if_neg (by omega)]
  simp [hk]
theorem chk_no {o : Op} (h : ¬ (spOn o.k = true ∧ spLo o.k ≤ o.n ∧ o.n ≤ spHi o.k ∧ o.s.length ≤ if o.k = 6 then 16 else 0)) : 2 = opChk o := by
 rw [opChk, if_neg (fun e => h ((opOk_alt o).1 e))]
theorem chk_yes {o : Op} (h : spOn o.k = true ∧ spLo o.k ≤ o.n ∧ o.n ≤ spHi o.k ∧ o.s.length ≤ if o.k = 6 then 16 else 0) : 0 = opChk o := by
 rw [opChk, if_pos ((opOk_alt o).2 h)]
theorem actchk_c (o : Op) : PC fs ms f_act_Check [op o] (.int .i64 (opChk o)) := by
 refine pc_of rfl rfl ?_
 refine vd_start (af := C_act_Check) false rfl (yB rfl) ?_
 generalize hQ : (fun (v : AV) (_ : Heap) => v = .int .i64 (opChk o)) = Q
 conv => whnf
 refine VD.mono (sp_c o) ?_
 rintro v h ⟨rfl, rfl⟩
 conv => whnf
 refine opt_go (sp_look o.k rfl) ?_
 conv => whnf
 refine ⟨winOk_of (by (conv => whnf); repeat' (first | exact trivial | (exact ⟨rfl, rfl, .inr ⟨_, _, rfl⟩⟩) | (refine ⟨rfl, rfl, .inl ⟨rfl, fun o ho => ?_⟩⟩; cases ho; first | rfl) | (exact ⟨rfl, .inr ⟨_, _, rfl⟩⟩) | (refine ⟨rfl, .inl ⟨rfl, fun i o hi ho => ?_⟩⟩; cases hi; cases ho; first | rfl) | (refine And.intro (fun hon => (Bool.false_ne_true hon).elim) ?_ <;> conv => whnf) | (refine And.intro (fun _ => ?_) ?_ <;> conv => whnf) | (refine And.intro ?_ ?_ <;> conv => whnf))), ?_⟩
 conv => whnf
 iterate 8 (all_goals (first | (refine br (fun hc => ?_) (fun hc => ?_) <;> (try rw [hc]) <;> (conv => whnf)) | skip))
 all_goals (subst hQ; refine congrArg (AV.int .i64) ?_)
 all_goals simp only [beq_iff_eq, beq_eq_false_iff_ne, ne_eq, Bool.not_eq_false', Bool.not_eq_true', decide_eq_true_eq, decide_eq_false_iff_not] at *
 all_goals first
  | (refine chk_no ?_; rintro ⟨e1, e2, e3, e4⟩; simp_all; omega)
  | (refine chk_no ?_; rintro ⟨e1, e2, e3, e4⟩; simp_all; done)
  | (refine chk_yes ⟨by assumption, by omega, by omega, ?_⟩; simp_all; omega)
  | (refine chk_yes ⟨by assumption, by omega, by omega, ?_⟩; simp_all; done)
  | skip
 all_goals trace_state
theorem cl_ops (l : List Op) : clL (ops l) = true := clL_map (enc := op) (fun _ => rfl) l
theorem len_ops (l : List Op) : (ops l).length = l.length := List.length_map ..
theorem size_ops (l : List Op) : allSize 3 (ops l) = true := allSize_map (enc := op) (fun _ => rfl) l
theorem idx_op {l : List Op} {j k : Nat} (hj : j < l.length) : pV (.iaddrS 3) [.fz k (ops l), .int .i64 (j : Nat)] = some (.fp (op l[j]).cells 0) := idx_map (enc := op) hj rfl

set_option smartUnfolding true in
theorem ixfOp_c {F : Nat} {capt : List AV} {p : Op → Bool} (k : Nat) (l : List Op) (hl : l.length < 2 ^ 62) (hcap : clL capt = true) (hp : ∀ m, m ∈ l → PC fs ms F (op m :: capt) (.bool (p m))) :
  ∃ n : Int, PC fs ms f_slices_IndexFunc_api_Op_api_Op [.fz k (ops l), .func (.func F) [] capt] (.int .i64 n) ∧ decide (n ≥ 0) = l.any p := by
 by_cases ha : l.any p = true
 ·obtain ⟨j, hj, h1, h2⟩ := least_get (l := l) (p := fun m => p m = true) (by simpa using ha)
  refine ⟨(j : Nat), ?_, by rw [ha]; simp⟩
  refine pc_of (by simp [clL, AV.cl, cl_ops, hcap]) rfl ?_
  refine vd_start (af := C_slices_IndexFunc_api_Op_api_Op) false rfl (yB rfl) ?_
  generalize hQ : (fun (v : AV) (_ : Heap) => v = .int .i64 (j : Nat)) = Q
  set_option smartUnfolding false in conv => whnf
  refine vc_to0 5 [(0, .fz k (ops l)), (1, .func (.func F) [] capt), (7, .int .i64 (ops l).length), (8, .int .i64 ((0 : Nat) : Int))] (by repeat' (first | exact trivial | refine renAt_sl rfl (by omega) ?_ | refine renAt_ptr rfl (by omega) ?_ | refine renAt_yield rfl (by omega) ?_ | refine renAt_cl rfl (by first | rfl | simp [clL, AV.cl, cl_ints, cl_ops, hcap]) ?_ | refine renAt_cl (inc_slot (by omega)) rfl ?_)) ?_
  refine for_row 5 j (fun _ => True) (fun i => [(0, .fz k (ops l)), (1, .func (.func F) [] capt), (7, .int .i64 (ops l).length), (8, .int .i64 (i : Nat))]) ?_ ?_ trivial
  ·intro i hi _
   set_option smartUnfolding false in conv => whnf
   refine br (fun hc => ?_) (fun hc => ?_) <;> (try rw [hc]) <;> (set_option smartUnfolding false in conv => whnf)
   ·refine ⟨_, idx_op (by omega), ?_⟩
    set_option smartUnfolding false in conv => whnf
    refine vd_pure (hp _ (List.getElem_mem _)) ?_
    set_option smartUnfolding false in conv => whnf
    refine br (fun hc => ?_) (fun hc => ?_) <;> (try rw [hc]) <;> (set_option smartUnfolding false in conv => whnf)
    ·exact absurd hc (h2 i (by omega) hi)
    ·refine ⟨trivial, ⟨_, rfl, .cl (by simp [AV.cl, cl_ops])⟩, ⟨_, rfl, .cl (by simp [AV.cl, clL, hcap])⟩, ⟨_, rfl, .cl rfl⟩, ⟨_, inc_slot (by omega), .cl rfl⟩, trivial⟩
   ·exfalso
    have := of_decide_eq_false hc
    rw [len_ops] at this
    omega
  ·intro _
   set_option smartUnfolding false in conv => whnf
   refine br (fun hc => ?_) (fun hc => ?_) <;> (try rw [hc]) <;> (set_option smartUnfolding false in conv => whnf)
   ·refine ⟨_, idx_op hj, ?_⟩
    set_option smartUnfolding false in conv => whnf
    refine vd_pure (hp _ (List.getElem_mem _)) ?_
    set_option smartUnfolding false in conv => whnf
    refine br (fun hc => ?_) (fun hc => ?_) <;> (try rw [hc]) <;> (set_option smartUnfolding false in conv => whnf)
    ·subst hQ
     rfl
    ·rw [h1] at hc; simp at hc
   ·exfalso
    have := of_decide_eq_false hc
    rw [len_ops] at this
    omega
 ·have hn : ∀ m, m ∈ l → p m = false := by
   intro m hm
   rw [Bool.eq_false_iff]
   intro h
   exact ha (List.any_eq_true.2 ⟨m, hm, h⟩)
  refine ⟨-1, ?_, by rw [Bool.eq_false_iff.2 ha]; decide⟩
  refine pc_of (by simp [clL, AV.cl, cl_ops, hcap]) rfl ?_
  refine vd_start (af := C_slices_IndexFunc_api_Op_api_Op) false rfl (yB rfl) ?_
  generalize hQ : (fun (v : AV) (_ : Heap) => v = .int .i64 (-1)) = Q
  set_option smartUnfolding false in conv => whnf
  refine vc_to0 5 [(0, .fz k (ops l)), (1, .func (.func F) [] capt), (7, .int .i64 (ops l).length), (8, .int .i64 ((0 : Nat) : Int))] (by repeat' (first | exact trivial | refine renAt_sl rfl (by omega) ?_ | refine renAt_ptr rfl (by omega) ?_ | refine renAt_yield rfl (by omega) ?_ | refine renAt_cl rfl (by first | rfl | simp [clL, AV.cl, cl_ints, cl_ops, hcap]) ?_ | refine renAt_cl (inc_slot (by omega)) rfl ?_)) ?_
  refine for_row 5 l.length (fun _ => True) (fun i => [(0, .fz k (ops l)), (1, .func (.func F) [] capt), (7, .int .i64 (ops l).length), (8, .int .i64 (i : Nat))]) ?_ ?_ trivial
  ·intro i hi _
   set_option smartUnfolding false in conv => whnf
   refine br (fun hc => ?_) (fun hc => ?_) <;> (try rw [hc]) <;> (set_option smartUnfolding false in conv => whnf)
   ·refine ⟨_, idx_op (by omega), ?_⟩
    set_option smartUnfolding false in conv => whnf
    refine vd_pure (hp _ (List.getElem_mem _)) ?_
    set_option smartUnfolding false in conv => whnf
    refine br (fun hc => ?_) (fun hc => ?_) <;> (try rw [hc]) <;> (set_option smartUnfolding false in conv => whnf)
    ·rw [hn _ (List.getElem_mem hi)] at hc; simp at hc
    ·refine ⟨trivial, ⟨_, rfl, .cl (by simp [AV.cl, cl_ops])⟩, ⟨_, rfl, .cl (by simp [AV.cl, clL, hcap])⟩, ⟨_, rfl, .cl rfl⟩, ⟨_, inc_slot (by omega), .cl rfl⟩, trivial⟩
   ·exfalso
    have := of_decide_eq_false hc
    rw [len_ops] at this
    omega
  ·intro _
   set_option smartUnfolding false in conv => whnf
   refine br (fun hc => ?_) (fun hc => ?_) <;> (try rw [hc]) <;> (set_option smartUnfolding false in conv => whnf)
   ·exfalso
    have := of_decide_eq_true hc
    rw [len_ops] at this
    omega
   ·subst hQ
    rfl

set_option smartUnfolding true in
theorem cfOp_c {F : Nat} {capt : List AV} {p : Op → Bool} (k : Nat) (l : List Op) (hl : l.length < 2 ^ 62) (hcap : clL capt = true) (hp : ∀ m, m ∈ l → PC fs ms F (op m :: capt) (.bool (p m))) :
  PC fs ms f_slices_ContainsFunc_api_Op_api_Op [.fz k (ops l), .func (.func F) [] capt] (.bool (l.any p)) := by
 obtain ⟨n, c1, c2⟩ := ixfOp_c k l hl hcap hp
 refine pc_of (by simp [clL, AV.cl, cl_ops, hcap]) rfl ?_
 refine vd_start (af := C_slices_ContainsFunc_api_Op_api_Op) false rfl (yB rfl) ?_
 generalize hQ : (fun (v : AV) (_ : Heap) => v = .bool (l.any p)) = Q
 set_option smartUnfolding false in conv => whnf
 refine vd_pure c1 ?_
 set_option smartUnfolding false in conv => whnf
 subst hQ
 exact congrArg AV.bool c2


theorem opChk_ne (o : Op) : (opChk o != 0) = !opOk o := by
 cases h : opOk o <;> simp [opChk, h]
theorem new1_c (o : Op) : PC fs ms f_act_New_1 [op o] (.bool (!opOk o)) := by
 refine pc_of rfl rfl ?_
 refine vd_start (af := C_act_New_1) false rfl (yB rfl) ?_
 generalize hQ : (fun (v : AV) (_ : Heap) => v = .bool (!opOk o)) = Q
 conv => whnf
 refine vd_pure (actchk_c o) ?_
 conv => whnf
 subst hQ
 exact congrArg AV.bool (opChk_ne o)
theorem opsBad_c (k : Nat) (l : List Op) (hl : l.length < 2 ^ 62) : PC fs ms f_slices_ContainsFunc_api_Op_api_Op [.fz k (ops l), .func (.func f_act_New_1) [] []] (.bool (l.any fun o => !opOk o)) :=
 cfOp_c k l hl rfl (fun m _ => new1_c m)
theorem smay_c (n : Int) : PC fs ms f_spore_may [.int .i64 n] (.bool (decide (1 ≤ n ∧ n ≤ 64))) := by
 refine pc_of rfl rfl ?_
 refine vd_start (af := C_spore_may) false rfl (yB rfl) ?_
 generalize hQ : (fun (v : AV) (_ : Heap) => v = .bool (decide (1 ≤ n ∧ n ≤ 64))) = Q
 conv => whnf
 iterate 3 (all_goals (first | (refine br (fun hc => ?_) (fun hc => ?_) <;> (try rw [hc]) <;> (conv => whnf)) | skip))
 all_goals (subst hQ; refine congrArg AV.bool ?_; rw [Bool.eq_iff_iff]; simp at *; omega)
def gAsk (n t : Int) : Int := if t < 0 then 2 else if t > 1099511627776 then 10 else if t < n then 140 else 0
def gB (p n : Int) : Blk := .cells [.int .i64 p, .int .i64 n] true 0

theorem gnone_c {h : Heap} {b : Nat} {p n : Int} (hg : h.get b = some (gB p n)) (hp : p ≠ 0) {Q : AV → Heap → Prop} (hQ : Q (.bool false) h) : VD fs ms f_spore_Guard_none [.ptr b 0] h Q := by
 refine vd_start (af := C_spore_Guard_none) true rfl (yB rfl) ?_
 conv => whnf
 refine ⟨_, ld1 hg rfl, ?_⟩
 conv => whnf
 rw [show (p == 0) = false from beq_eq_false_iff_ne.2 hp]
 exact hQ
theorem gask_c {h : Heap} {b : Nat} {p n t : Int} (hg : h.get b = some (gB p n)) (hp : p ≠ 0) {Q : AV → Heap → Prop} (hQ : Q (.int .i64 (gAsk n t)) h) : VD fs ms f_spore_Guard_asked [.ptr b 0, .int .i64 t] h Q := by
 refine vd_start (af := C_spore_Guard_asked) true rfl (yB rfl) ?_
 conv => whnf
 refine gnone_c hg hp ?_
 conv => whnf
 refine br (fun hc => ?_) (fun hc => ?_) <;> (try rw [hc]) <;> (conv => whnf)
 ·rw [gAsk, if_pos (of_decide_eq_true hc)] at hQ
  exact hQ
 ·rw [gAsk, if_neg (of_decide_eq_false hc)] at hQ
  refine br (fun hc => ?_) (fun hc => ?_) <;> (try rw [hc]) <;> (conv => whnf)
  ·rw [if_pos (of_decide_eq_true hc)] at hQ
   exact hQ
  ·rw [if_neg (of_decide_eq_false hc)] at hQ
   refine ⟨_, ld1 hg rfl, ?_⟩
   conv => whnf
   refine br (fun hc => ?_) (fun hc => ?_) <;> (try rw [hc]) <;> (conv => whnf)
   ·rw [if_pos (of_decide_eq_true hc)] at hQ
    exact hQ
   ·rw [if_neg (of_decide_eq_false hc)] at hQ
    exact hQ
def gNx (p n t : Int) : Int := if gAsk n t = 0 then IntKind.i64.wrap (t + p) else n
theorem grel_c {h : Heap} {b : Nat} {p n t : Int} (hg : h.get b = some (gB p n)) (hp : p ≠ 0) {Q : AV → Heap → Prop} (hQ : ∀ h', h'.get b = some (gB p (gNx p n t)) → Fr h h' [b] → Q (.int .i64 (gAsk n t)) h') : VD fs ms f_spore_Guard_Release [.ptr b 0, .int .i64 t] h Q := by
 refine vd_start (af := C_spore_Guard_Release) true rfl (yB rfl) ?_
 conv => whnf
 refine gask_c hg hp ?_
 conv => whnf
 refine br (fun hc => ?_) (fun hc => ?_) <;> (try rw [hc]) <;> (conv => whnf)
 ·refine ⟨_, ld1 hg rfl, ?_⟩
  conv => whnf
  refine ⟨_, _, st1 hg rfl rfl rfl, ?_⟩
  conv => whnf
  have h0 : gAsk n t = 0 := by simpa using hc
  refine hQ _ ?_ ?_
  ·rw [gNx, if_pos h0]
   exact get_set_same
  ·exact (Fr.refl _ _).set (by simp)
 ·have h0 : ¬ gAsk n t = 0 := by simpa using hc
  refine hQ _ ?_ ?_
  ·rw [gNx, if_neg h0]; exact hg
  ·exact Fr.refl _ _
theorem gnew_c {h : Heap} {n : Int} {Q : AV → Heap → Prop} (h1 : 1 ≤ n ∧ n ≤ 64 → Q (.tup [.ptr h.next 0, .int .i64 0]) (h.new (gB n 0))) (h2 : ¬ (1 ≤ n ∧ n ≤ 64) → Q (.tup [.nilp, .int .i64 2]) h) : VD fs ms f_spore_New [.int .i64 n] h Q := by
 refine vd_start (af := C_spore_New) true rfl (yB rfl) ?_
 conv => whnf
 refine vd_pure (smay_c n) ?_
 conv => whnf
 refine br (fun hc => ?_) (fun hc => ?_) <;> (try rw [hc]) <;> (conv => whnf)
 ·exact h2 (by simp at hc; omega)
 ·exact h1 (by simp at hc; omega)
def opZ : Op := ⟨0, 0, []⟩
def rowE (l : List Op) : Bool := match l with
 | [] => true
 | x :: _ => x.k == 1
def didL (l : List Op) : List Op := if rowE l then l else l.tail
def rowR (l : List Op) : Bool := match l with
 | [] => false
 | x :: _ => x.k == 1
def ranL : List Op → List Op
 | [] => []
 | x :: r => if x.k == 1 then (if IntKind.i64.wrap (x.n - 1) == 0 then r else { x with n := IntKind.i64.wrap (x.n - 1) } :: r) else x :: r
def leftN (l : List Op) : Int := l.foldl (fun a x => if x.k == 1 then IntKind.i64.wrap (a + x.n) else a) 0

def EmV (v : AV) : Prop := v = .nils ∨ (∃ x y z, v = .rest x y z) ∨ (∃ k, v = .fz k []) ∨ ∃ b o op, v = .sl b o 0 0 op
def RwV (h : Heap) (C o : Nat) (v : AV) (l : List Op) : Prop := match l with
 | [] => EmV v
 | _ :: _ => ∃ p cs, v = .sl C o l.length l.length p ∧ C < h.next ∧ h.get C = some (.cells cs true 3) ∧ cs.drop o = flatCells (ops l)
theorem EmV.len {v : AV} (e : EmV v) : pV .lenS [v] = some (.int .i64 0) := by
 rcases e with rfl | ⟨_, _, _, rfl⟩ | ⟨_, rfl⟩ | ⟨_, _, _, rfl⟩ <;> rfl
theorem RwV.len {h : Heap} {C o : Nat} {v : AV} {l : List Op} (r : RwV h C o v l) : pV .lenS [v] = some (.int .i64 ((l.length : Nat) : Int)) := by
 cases l with
 | nil => exact EmV.len r
 | cons x l => obtain ⟨p, cs, rfl, _⟩ := r; rfl
theorem RwV.keep {h h' : Heap} {C o : Nat} {v : AV} {l : List Op} {bs : List Nat} (r : RwV h C o v l) (f : Fr h h' bs) (hC : l ≠ [] → C ∉ bs) : RwV h' C o v l := by
 cases l with
 | nil => exact r
 | cons x l =>
  obtain ⟨p, cs, e, h1, h2, h3⟩ := r
  exact ⟨p, cs, e, Nat.lt_of_lt_of_le h1 f.next, (f.keep C h1 (hC (by simp))).trans h2, h3⟩
section
variable {h : Heap} {C o : Nat} {v : AV} {x : Op} {l : List Op}
theorem RwV.idx (r : RwV h C o v (x :: l)) : pV (.iaddrS 3) [v, .int .i64 0] = some (.ptr C o) := by
 obtain ⟨p, cs, rfl, _⟩ := r
 rfl
theorem drop_get {α : Type} {cs : List α} {o i : Nat} {l : List α} (h : cs.drop o = l) : cs[o + i]? = l[i]? := by rw [← h, List.getElem?_drop]
theorem RwV.ld (r : RwV h C o v (x :: l)) (i : Nat) {u : AV} (hu : (op x).cells[i]? = some u) : rV .load1 [.ptr C (o + i)] h = some u := by
 obtain ⟨p, cs, rfl, h1, h2, h3⟩ := r
 refine ld1 h2 ?_
 rw [drop_get h3]
 show ((op x).cells ++ flatCells (ops l))[i]? = _
 rw [List.getElem?_append_left (List.getElem?_eq_some_iff.1 hu).1]
 exact hu
theorem RwV.ldN (r : RwV h C o v (x :: l)) : rV (.loadN 3) [.ptr C o] h = some (op x) := by
 obtain ⟨p, cs, rfl, h1, h2, h3⟩ := r
 have hl : 3 ≤ (cs.drop o).length := by
  rw [h3]
  show 3 ≤ ((op x).cells ++ flatCells (ops l)).length
  rw [List.length_append]
  exact Nat.le_add_right _ _
 rw [List.length_drop] at hl
 have := Ads.ldN (o := o) (n := 3) h2 (by omega)
 rw [h3] at this
 exact this
theorem RwV.st (r : RwV h C o v (x :: l)) (m : Int) : ∃ h', eV (.store 1) [.ptr C (o + 1), .int .i64 m] h = some (.undef, h') ∧ RwV h' C o v ({ x with n := m } :: l) ∧ Fr h h' [C] := by
 obtain ⟨p, cs, rfl, h1, h2, h3⟩ := r
 have hl : cs.length = o + (3 + (flatCells (ops l)).length) := by
  have := congrArg List.length h3
  rw [List.length_drop] at this
  have e : (flatCells (ops (x :: l))).length = 3 + (flatCells (ops l)).length := by
   show ((op x).cells ++ flatCells (ops l)).length = _
   rw [List.length_append]; rfl
  omega
 have hst := sto_o (o := o + 1) (n := 1) (v := .int .i64 m) h2 rfl (by omega) rfl
 rw [show (AV.int IntKind.i64 m).cells = [.int .i64 m] from rfl, splice_at _ _ _ (by omega)] at hst
 refine ⟨_, hst, ⟨p, cs.set (o + 1) (.int .i64 m), rfl, h1, get_set_same, ?_⟩, (Fr.refl _ _).set (by simp)⟩
 rw [List.drop_set, if_neg (by omega), h3, show o + 1 - o = 1 by omega]
 rfl
theorem flat_ops_cons : flatCells (ops (x :: l)) = .int .i64 x.k :: .int .i64 x.n :: .str x.s :: flatCells (ops l) := rfl
theorem RwV.tailP (r : RwV h C o v (x :: l)) : ∃ v' o', pV (.slice 3 true true true) [v, .int .i64 1, .int .i64 (((x :: l).length : Nat) : Int), .int .i64 (((x :: l).length : Nat) : Int)] = some v' ∧ RwV h C o' v' l := by
 obtain ⟨p, cs, rfl, h1, h2, h3⟩ := r
 have hb : bounds (l.length + 1) (l.length + 1) true true true [.int .i64 1, .int .i64 (((x :: l).length : Nat) : Int), .int .i64 (((x :: l).length : Nat) : Int)] = some (1, l.length + 1, l.length + 1) := by
  have b1 : Nat.ble 1 (l.length + 1) = true := Nat.ble_eq_true_of_le (by omega)
  have b2 : Nat.ble (l.length + 1) (l.length + 1) = true := Nat.ble_eq_true_of_le (by omega)
  show cond (Nat.ble 1 (l.length + 1) && Nat.ble (l.length + 1) (l.length + 1) && Nat.ble (l.length + 1) (l.length + 1)) _ _ = _
  rw [b1, b2]; rfl
 have he : pV (.slice 3 true true true) [.sl C o (x :: l).length (x :: l).length p, .int .i64 1, .int .i64 (((x :: l).length : Nat) : Int), .int .i64 (((x :: l).length : Nat) : Int)] = (match bounds (l.length + 1) (l.length + 1) true true true [.int .i64 1, .int .i64 (((x :: l).length : Nat) : Int), .int .i64 (((x :: l).length : Nat) : Int)] with
   | some (a, hh, mm) => cond (Nat.beq mm a && Nat.beq (l.length + 1) mm && (p && !true && !Nat.beq a 0)) (some (.rest C o (a * 3))) (some (.sl C (o + cond (Nat.beq mm a) 0 (a * 3)) (hh - a) (mm - a) false))
   | none => none) := rfl
 rw [he, hb]
 cases l with
 | nil => cases p <;> exact ⟨_, o, rfl, by simp [RwV, EmV]⟩
 | cons y l =>
  refine ⟨.sl C (o + 3) (l.length + 1) (l.length + 1) false, o + 3, by cases p <;> rfl, false, cs, rfl, h1, h2, ?_⟩
  rw [← List.drop_drop, h3, flat_ops_cons]
  rfl
end
structure Rw (h : Heap) (b C o : Nat) (tl : List AV) (v : AV) (l : List Op) : Prop where
 lt : b < h.next
 ne : l ≠ [] → b ≠ C
 st : h.get b = some (.cells (v :: tl) true 0)
 row : RwV h C o v l
theorem Rw.keep {h h' : Heap} {b C o : Nat} {tl : List AV} {v : AV} {l : List Op} (r : Rw h b C o tl v l) (f : Fr h h' []) : Rw h' b C o tl v l :=
 ⟨Nat.lt_of_lt_of_le r.lt f.next, r.ne, (f.keep b r.lt (by simp)).trans r.st, r.row.keep f (by simp)⟩
theorem RwV.flat {h : Heap} {C o : Nat} {v : AV} {l : List Op} (r : RwV h C o v l) : v.cells = [v] ∧ flatL [v] = true := by
 cases l with
 | nil => rcases r with rfl | ⟨_, _, _, rfl⟩ | ⟨_, rfl⟩ | ⟨_, _, _, rfl⟩ <;> exact ⟨rfl, rfl⟩
 | cons x l => obtain ⟨p, cs, rfl, _⟩ := r; exact ⟨rfl, rfl⟩
theorem Rw.set {h : Heap} {b C o o' : Nat} {tl : List AV} {v v' : AV} {x : Op} {l l' : List Op} (r : Rw h b C o tl v (x :: l)) (r' : RwV h C o' v' l') :
  ∃ h', eV (.store 1) [.ptr b 0, v'] h = some (.undef, h') ∧ Rw h' b C o' tl v' l' ∧ Fr h h' [b] := by
 obtain ⟨e1, e2⟩ := r'.flat
 have hst := sto_o (o := 0) (n := 1) (v := v') r.st (by rw [e1]; rfl) (by simp) (by rw [e1]; exact e2)
 rw [e1, show Heap.splice (v :: tl) 0 [v'] = v' :: tl by show v' :: Heap.splice tl 0 [] = _; rw [splice_nil]] at hst
 have fr : Fr h (h.set b (.cells (v' :: tl) true 0)) [b] := (Fr.refl _ _).set (by simp)
 exact ⟨_, hst, ⟨r.lt, fun _ => r.ne (by simp), get_set_same, r'.keep fr (fun _ => by simpa using (r.ne (by simp)).symm)⟩, fr⟩
theorem Rw.stN {h : Heap} {b C o : Nat} {tl : List AV} {v : AV} {x : Op} {l : List Op} (r : Rw h b C o tl v (x :: l)) (m : Int) :
  ∃ h', eV (.store 1) [.ptr C (o + 1), .int .i64 m] h = some (.undef, h') ∧ Rw h' b C o tl v ({ x with n := m } :: l) ∧ Fr h h' [C] := by
 obtain ⟨h', e, r', fr⟩ := r.row.st m
 exact ⟨h', e, ⟨Nat.lt_of_lt_of_le r.lt fr.next, fun _ => r.ne (by simp), (fr.keep b r.lt (by simpa using r.ne (by simp))).trans r.st, r'⟩, fr⟩

section
variable {h : Heap} {b C o : Nat} {v : AV} {l : List Op} {Q : AV → Heap → Prop}
theorem Rw.ld0 {tl : List AV} (r : Rw h b C o tl v l) : rV .load1 [.ptr b 0] h = some v := ld1 r.st rfl
theorem anone_c (r : Rw h b C o [.bool true] v l) (hQ : Q (.bool false) h) : VD fs ms f_act_Row_none [.ptr b 0] h Q := by
 refine vd_start (af := C_act_Row_none) true rfl (yB rfl) ?_
 conv => whnf
 refine ⟨_, ld1 r.st rfl, ?_⟩
 conv => whnf
 exact hQ
theorem aruns_c (r : Rw h b C o [.bool true] v l) (hQ : Q (.bool (rowR l)) h) : VD fs ms f_act_Row_runs [.ptr b 0] h Q := by
 refine vd_start (af := C_act_Row_runs) true rfl (yB rfl) ?_
 conv => whnf
 refine ⟨_, r.ld0, ?_⟩
 conv => whnf
 refine opt_go r.row.len ?_
 conv => whnf
 cases l with
 | nil =>
  conv => whnf
  exact hQ
 | cons x l =>
  refine brt (decide_eq_true (by simp)) (fun hc => ?_)
  (try rw [hc])
  conv => whnf
  refine ⟨_, r.ld0, ?_⟩
  conv => whnf
  refine ⟨_, r.row.idx, ?_⟩
  conv => whnf
  refine ⟨_, r.row.ld 0 rfl, ?_⟩
  conv => whnf
  exact hQ
theorem aon_c {x : Op} (r : Rw h b C o [.bool true] v (x :: l)) (hQ : ∀ h' v' o', Rw h' b C o' [.bool true] v' l → Fr h h' [b] → Q (.tup []) h') : VD fs ms f_act_Row_on [.ptr b 0] h Q := by
 obtain ⟨v', o', e, r'⟩ := r.row.tailP
 obtain ⟨h', s, rw', fr⟩ := r.set r'
 refine vd_start (af := C_act_Row_on) true rfl (yB rfl) ?_
 conv => whnf
 repeat (first | (refine ⟨_, r.ld0, ?_⟩; conv => whnf))
 refine opt_go r.row.len ?_
 conv => whnf
 repeat (first | (refine ⟨_, r.ld0, ?_⟩; conv => whnf))
 refine opt_go r.row.len ?_
 conv => whnf
 refine ⟨_, e, ?_⟩
 conv => whnf
 refine ⟨_, _, s, ?_⟩
 conv => whnf
 exact hQ _ _ _ rw' fr
theorem adid_c (r : Rw h b C o [.bool true] v l) (hQ : ∀ h' v' o', Rw h' b C o' [.bool true] v' (didL l) → Fr h h' [b] → Q (.int .i64 (if rowE l then 250 else 0)) h') : VD fs ms f_act_Row_Did [.ptr b 0] h Q := by
 refine vd_start (af := C_act_Row_Did) true rfl (yB rfl) ?_
 conv => whnf
 refine anone_c r ?_
 conv => whnf
 repeat (first | (refine ⟨_, r.ld0, ?_⟩; conv => whnf))
 refine opt_go r.row.len ?_
 conv => whnf
 cases l with
 | nil =>
  conv => whnf
  exact hQ _ _ _ r (Fr.refl _ _)
 | cons x l =>
  conv => whnf
  refine aruns_c r ?_
  conv => whnf
  refine br (fun hc => ?_) (fun hc => ?_) <;> (try rw [hc]) <;> (conv => whnf)
  ·have hk : (x.k == 1) = true := hc
   have := hQ _ _ _ (show Rw h b C o [.bool true] v (didL (x :: l)) by simp only [didL, rowE, hk]; exact r) (Fr.refl _ _)
   simp only [rowE, hk] at this
   exact this
  ·have hk : (x.k == 1) = false := hc
   refine aon_c r fun h' v' o' r' fr => ?_
   conv => whnf
   have := hQ h' v' o' (by simp only [didL, rowE, hk]; exact r') fr
   simp only [rowE, hk] at this
   exact this
theorem aran_c (r : Rw h b C o [.bool true] v l) (hQ : ∀ h' v' o', Rw h' b C o' [.bool true] v' (ranL l) → Fr h h' [b, C] → Q (.int .i64 (if rowR l then 0 else 250)) h') : VD fs ms f_act_Row_Ran [.ptr b 0] h Q := by
 refine vd_start (af := C_act_Row_Ran) true rfl (yB rfl) ?_
 conv => whnf
 refine anone_c r ?_
 conv => whnf
 refine aruns_c r ?_
 conv => whnf
 cases l with
 | nil =>
  conv => whnf
  exact hQ _ _ _ r (Fr.refl _ _)
 | cons x l =>
  cases hk : (x.k == 1) with
  | false =>
   rw [show rowR (x :: l) = (x.k == 1) from rfl, hk] at hQ ⊢
   conv => whnf
   exact hQ _ _ _ (by simp only [ranL, hk]; exact r) (Fr.refl _ _)
  | true =>
   rw [show rowR (x :: l) = (x.k == 1) from rfl, hk] at hQ ⊢
   conv => whnf
   repeat (first | (refine ⟨_, r.ld0, ?_⟩; conv => whnf))
   repeat (first | (refine ⟨_, r.row.idx, ?_⟩; conv => whnf))
   repeat (first | (refine ⟨_, r.row.ld 1 rfl, ?_⟩; conv => whnf))
   refine ⟨_, r.row.idx, ?_⟩
   conv => whnf
   obtain ⟨h1, e, r1, fr1⟩ := r.stN (IntKind.i64.wrap (x.n - 1))
   refine ⟨_, _, e, ?_⟩
   conv => whnf
   refine ⟨_, r1.ld0, ?_⟩
   conv => whnf
   refine ⟨_, r1.row.idx, ?_⟩
   conv => whnf
   refine ⟨_, r1.row.ld 1 rfl, ?_⟩
   conv => whnf
   have hr : ranL (x :: l) = if IntKind.i64.wrap (x.n - 1) == 0 then l else { x with n := IntKind.i64.wrap (x.n - 1) } :: l := by simp only [ranL, hk]; rfl
   rw [hr] at hQ
   refine br (fun hc => ?_) (fun hc => ?_) <;> (try rw [hc]) <;> (conv => whnf)
   ·rw [if_pos hc] at hQ
    refine aon_c r1 fun h' v' o' r' fr => ?_
    conv => whnf
    exact hQ h' v' o' r' ((fr1.wk (by simp)).trans (fr.wk (by simp)))
   ·rw [if_neg (by rw [hc]; simp)] at hQ
    exact hQ _ _ _ r1 (fr1.wk (by simp))
end
theorem ops_take : ∀ {L : List Op} {i : Nat} (h : i < L.length), ((flatCells (ops L)).drop (i * 3)).take 3 = (op L[i]).cells
 | [], i, h => by simp at h
 | x :: L, 0, h => by rw [Nat.zero_mul, List.drop_zero, flat_ops_cons]; rfl
 | x :: L, i + 1, h => by
  rw [show (i + 1) * 3 = 3 + i * 3 by omega, ← List.drop_drop, flat_ops_cons]
  exact ops_take (L := L) (i := i) (by simpa using h)
section
variable {h : Heap} {b C o : Nat} {v : AV} {l : List Op} {Q : AV → Heap → Prop}
theorem RwV.at (r : RwV h C o v l) {j : Nat} (hj : j < l.length) : pV (.iaddrS 3) [v, .int .i64 ((j : Nat) : Int)] = some (.ptr C (o + j * 3)) ∧ rV (.loadN 3) [.ptr C (o + j * 3)] h = some (op l[j]) ∧
  ∀ i u, (op l[j]).cells[i]? = some u → rV .load1 [.ptr C (o + j * 3 + i)] h = some u := by
 cases l with
 | nil => simp at hj
 | cons x l =>
  obtain ⟨p, cs, rfl, h1, h2, h3⟩ := r
  have hd : (cs.drop (o + j * 3)).take 3 = (op (x :: l)[j]).cells := by rw [← List.drop_drop, h3]; exact ops_take hj
  have hl : o + j * 3 + 3 ≤ cs.length := by
   have := congrArg List.length hd
   rw [List.length_take, List.length_drop] at this
   have e : (op (x :: l)[j]).cells.length = 3 := rfl
   omega
  refine ⟨?_, ?_, fun i u hu => ld1 h2 ?_⟩
  ·show cond (Nat.ble (j + 1) (x :: l).length) _ _ = _
   rw [Nat.ble_eq_true_of_le hj]; rfl
  ·have := Ads.ldN (o := o + j * 3) (n := 3) h2 hl
   rw [hd] at this
   exact this
  ·have hi : i < 3 := (List.getElem?_eq_some_iff.1 hu).1
   rw [← hd, List.getElem?_take_of_lt hi, List.getElem?_drop] at hu
   exact hu
def leftS (a : Int) (x : Op) : Int := if x.k == 1 then IntKind.i64.wrap (a + x.n) else a
theorem leftN_next {j : Nat} (hj : j < l.length) : leftN (l.take (j + 1)) = leftS (leftN (l.take j)) l[j] := by
 rw [take_next hj, leftN, List.foldl_append]
 rfl
theorem aleft_l {h0 : Heap} (r : RwV h0 C o v l) (hl : l.length ≤ 64) {B : Nat} {Q : AX → Env → Heap → Prop} (hQ : ∀ e' h', Fr h0 h' [] → Tr.get e' 2 = some (.int .i64 (leftN l)) → Q (.exit 0) e' h') :
  ∀ (m j : Nat) (h : Heap) (env : Env), l.length - j = m → j ≤ l.length → Fr h0 h [] → AllAt env [(2, .int .i64 (leftN (l.take j))), (10, v), (11, .int .i64 ((l.length : Nat) : Int)), (12, .int .i64 ((j : Nat) : Int))] →
  VC fs ms B false (.loop L_act_Row_Left_0) env h Q := by
 intro m
 induction m using Nat.strongRecOn with
 | ind m ih =>
 intro j h env hm hj fr henv
 refine vc_slots 4 _ henv ?_
 refine vc_loopV (vc_seq true ?_)
 conv => whnf
 refine vc_seq true ?_
 conv => whnf
 refine br (fun hc => ?_) (fun hc => ?_) <;> (try rw [hc]) <;> (conv => whnf)
 ·have hlt : j < l.length := by have := of_decide_eq_true hc; omega
  have hr := r.keep fr (by simp)
  obtain ⟨e1, e2, -⟩ := hr.at hlt
  have hnx := leftN_next hlt
  generalize l[j] = x at *
  refine vpC_sound (z := true) ?_
  conv => whnf
  refine ⟨_, e1, ?_⟩
  conv => whnf
  refine ⟨_, e2, ?_⟩
  conv => whnf
  refine eff_o (sto_o get_new_same rfl (Nat.le_refl _) rfl) fun h1 e1 => ?_
  have g1 : h1.get h.next = some (.cells (op x).cells true 0) := by rw [e1, get_set_same]; rfl
  have fr1 : Fr h h1 [] := by rw [e1]; exact ((Fr.refl h []).new (x := _)).setn (Nat.le_refl _)
  clear e1
  conv => whnf
  refine ⟨_, ld1 g1 rfl, ?_⟩
  conv => whnf
  rw [leftS] at hnx
  refine br (fun hc => ?_) (fun hc => ?_) <;> (try rw [hc]) <;> (conv => whnf)
  ·rw [if_pos hc] at hnx
   refine ⟨_, ld1 g1 rfl, ?_⟩
   conv => whnf
   refine ih (l.length - (j + 1)) (by omega) (j + 1) _ _ rfl (by omega) (fr.trans fr1) ⟨by rw [hnx]; rfl, rfl, rfl, inc_slot (by omega), trivial⟩
  ·rw [if_neg (by rw [hc]; simp)] at hnx
   refine ih (l.length - (j + 1)) (by omega) (j + 1) _ _ rfl (by omega) (fr.trans fr1) ⟨by rw [hnx]; rfl, rfl, rfl, inc_slot (by omega), trivial⟩
 ·have hge : j = l.length := by have := of_decide_eq_false hc; omega
  refine hQ _ _ fr ?_
  rw [hge, List.take_length]
  rfl
theorem aleft_c (r : Rw h b C o [.bool true] v l) (hl : l.length ≤ 64) (hQ : ∀ h', Fr h h' [] → Q (.int .i64 (leftN l)) h') : VD fs ms f_act_Row_Left [.ptr b 0] h Q := by
 refine vd_begin (af := C_act_Row_Left) rfl (yB rfl) ?_
 conv => whnf
 refine vc_seq true ?_
 conv => whnf
 refine vc_seqV (vc_seq true ?_)
 conv => whnf
 refine anone_c r ?_
 conv => whnf
 refine vpC_sound (z := true) ?_
 conv => whnf
 refine vc_seqV (vc_seq true ?_)
 conv => whnf
 refine ⟨_, r.ld0, ?_⟩
 conv => whnf
 refine opt_go r.row.len ?_
 conv => whnf
 refine vc_block ?_
 refine aleft_l r.row hl ?_ l.length 0 h _ rfl (Nat.zero_le _) (Fr.refl _ _) ⟨rfl, rfl, rfl, rfl, trivial⟩
 intro e' h' fr he
 refine vc_slots 4 [(2, .int .i64 (leftN l))] ⟨he, trivial⟩ (vpC_sound (z := true) ?_)
 conv => whnf
 exact hQ _ fr
end
set_option smartUnfolding true in
theorem res_two {e : Env} {h : Heap} {a b o n t : Nat} {cs : List AV} {w : AV} (ha : Tr.get e a = some (.ptr b o)) (hl : h.loadN b o n = some cs) (ht : Tr.get e t = some w) : resAllV e h [.cell a n true, .tmp t] = some [.agg cs, w] := by
 simp only [resAllV, resOfV, ha, hl, ht, Option.map_some, cond_true]
section
variable {h : Heap} {b C o : Nat} {v : AV} {l : List Op} {Q : AV → Heap → Prop}
theorem anext_c (r : Rw h b C o [.bool true] v l) (hQ : ∀ h', Fr h h' [] → Q (.tup [op (l.headD opZ), .bool (!l.isEmpty)]) h') : VD fs ms f_act_Row_Next [.ptr b 0] h Q := by
 refine vd_start (af := C_act_Row_Next) true rfl (yB rfl) ?_
 conv => whnf
 have r1 := r.keep ((Fr.refl h []).new (x := .cells (op opZ).cells true 0))
 refine anone_c r1 ?_
 conv => whnf
 refine ⟨_, r1.ld0, ?_⟩
 conv => whnf
 refine opt_go r1.row.len ?_
 conv => whnf
 cases l with
 | nil =>
  conv => whnf
  refine eff_o (sto_o get_new_same rfl (Nat.le_refl _) rfl) fun h1 e1 => ?_
  conv => whnf
  refine opt_go (res_two rfl (loadN_some (vs := (op opZ).cells) (by rw [e1]; exact get_set_same) (Nat.le_refl _)) rfl) ?_
  conv => whnf
  exact hQ _ (by rw [e1]; exact ((Fr.refl h []).new (x := _)).setn (Nat.le_refl _))
 | cons x l =>
  conv => whnf
  refine ⟨_, r1.ld0, ?_⟩
  conv => whnf
  refine ⟨_, r1.row.idx, ?_⟩
  conv => whnf
  refine ⟨_, r1.row.ldN, ?_⟩
  conv => whnf
  refine eff_o (sto_o get_new_same rfl (Nat.le_refl _) rfl) fun h1 e1 => ?_
  conv => whnf
  refine opt_go (res_two rfl (loadN_some (vs := (op x).cells) (by rw [e1]; exact get_set_same) (Nat.le_refl _)) rfl) ?_
  conv => whnf
  exact hQ _ (by rw [e1]; exact ((Fr.refl h []).new (x := _)).setn (Nat.le_refl _))
end
theorem RwV.lt {h : Heap} {C o : Nat} {v : AV} {x : Op} {l : List Op} (r : RwV h C o v (x :: l)) : C < h.next := by
 obtain ⟨p, cs, rfl, h1, _⟩ := r
 exact h1
section
variable {h : Heap} {b C o : Nat} {v : AV} {l : List Op} {Q : AV → Heap → Prop}
end
theorem flatL_ops : ∀ l : List Op, flatL (flatCells (ops l)) = true
 | [] => rfl
 | x :: l => by
  rw [flat_ops_cons]
  simp only [flatL_one, flatL_ops l]
  rfl
def newE (l : List Op) : Int := if l.length > 32 then 5 else if l.any (fun o => !opOk o) then 2 else 0
set_option smartUnfolding true in
theorem bld2 {v : AV} (fl : v.cells = [v]) : pV (.build [.nils, .bool false] [(0, 1), (1, 1)]) [v, .bool true] = some (.agg [v, .bool true]) := by
 show (fill [.nils, .bool false] [(0, 1), (1, 1)] [v, .bool true]).map AV.agg = _
 simp only [fill]
 rw [fl]
 rfl
section
variable {h : Heap} {Q : AV → Heap → Prop} {k : Nat} {l : List Op}
theorem cloneO_c (hk : k = 3 → l = []) (hl : l.length ≤ 32) (hQ : ∀ h' C v, RwV h' C 0 v l → h.next ≤ C → (l ≠ [] → C < h'.next) → Fr h h' [] → Q v h') : VD fs ms f_slices_Clone_api_Op_api_Op [.fz k (ops l)] h Q := by
 refine vd_start (af := C_slices_Clone_api_Op_api_Op) true rfl (yB rfl) ?_
 conv => whnf
 cases hb : Nat.beq k 3 with
 | true =>
  have := hk (Nat.eq_of_beq_eq_true hb)
  subst this
  conv => whnf
  exact hQ h h.next .nils (.inl rfl) (Nat.le_refl _) (by simp) (Fr.refl _ _)
 | false =>
  conv => whnf
  cases l with
  | nil =>
   refine eff_o (app_lit0 (s := 3) (bytes := 32) (b := h.next) (nx := h.next + 1) (src_fz (k := k) (size_ops [])) rfl) fun h1 e1 => ?_
   conv => whnf
   exact hQ _ h.next _ (.inr (.inr (.inr ⟨_, _, _, rfl⟩))) (Nat.le_refl _) (by simp) (by rw [e1]; exact (Fr.refl h []).new)
  | cons x l =>
   refine eff_o (app_lit (s := 3) (bytes := 32) (n := l.length) (b := h.next) (nx := h.next + 1) (cs := flatCells (ops (x :: l))) get_new_same (by omega) (by simp at hl; omega) ((src_fz (k := k) (size_ops (x :: l))).trans (by rw [len_ops]; rfl)) (flatL_ops _)) fun h1 e1 => ?_
   conv => whnf
   refine hQ h1 (h.next + 1) _ ⟨true, _, rfl, by rw [e1]; exact Nat.lt_succ_self _, by rw [e1]; exact get_new_same (h := h.new _), by rw [List.drop_zero]⟩ (by omega) (fun _ => by rw [e1]; exact Nat.lt_succ_self _) (by rw [e1]; exact (Fr.refl h []).new.new)
theorem anew_c (hk : k = 3 → l = []) (hl : l.length < 2 ^ 62) (h0 : newE l ≠ 0 → ∀ h', Fr h h' [] → Q (.tup [.nilp, .int .i64 (newE l)]) h')
  (h1 : newE l = 0 → ∀ h' b C v, Rw h' b C 0 [.bool true] v l → h.next ≤ b → h.next ≤ C → (l ≠ [] → C < h'.next) → Fr h h' [] → Q (.tup [.ptr b 0, .int .i64 0]) h') : VD fs ms f_act_New [.fz k (ops l)] h Q := by
 refine vd_start (af := C_act_New) true rfl (yB rfl) ?_
 conv => whnf
 rw [len_ops]
 refine br (fun hc => ?_) (fun hc => ?_) <;> (try rw [hc]) <;> (conv => whnf)
 ·have e : newE l = 5 := by rw [newE, if_pos (by have := of_decide_eq_true hc; omega)]
  rw [e] at h0
  exact h0 (by decide) _ (Fr.refl _ _)
 ·have hn : ¬ l.length > 32 := by have := of_decide_eq_false hc; omega
  refine vd_pure (opsBad_c k l hl) ?_
  conv => whnf
  refine br (fun hc => ?_) (fun hc => ?_) <;> (try rw [hc]) <;> (conv => whnf)
  ·have e : newE l = 2 := by rw [newE, if_neg hn, if_pos hc]
   rw [e] at h0
   exact h0 (by decide) _ (Fr.refl _ _)
  ·have e : newE l = 0 := by rw [newE, if_neg hn, if_neg (by rw [hc]; simp)]
   refine cloneO_c hk (by omega) fun h2 C v r hC hC2 fr => ?_
   conv => whnf
   have fl := r.flat
   refine op_some (bld2 fl.1) ?_
   conv => whnf
   refine h1 e _ h2.next C v ⟨Nat.lt_succ_self _, fun hne => by have := hC2 hne; omega, ?_, r.keep ((Fr.refl h2 []).new (x := _)) (by simp)⟩ fr.next hC (fun hne => Nat.lt_succ_of_lt (hC2 hne)) (fr.trans ((Fr.refl h2 []).new (x := _)))
   exact get_new_same
end
structure Jb where
 t : Tk
 l : List Op
 e : Int
 n : Int
 s : Int
 k : Int
 c : Int
 g : Bool
def jDid (j : Jb) : Jb := { j with l := didL j.l, g := j.g || !rowE j.l }
def jDidE (j : Jb) : Int := if rowE j.l then 250 else 0
def jRunE (j : Jb) : Int := if j.s == 3 then 250 else if rowR j.l then 0 else 250
def jRun (j : Jb) : Jb := if jRunE j == 0 then { j with l := ranL j.l, g := true, n := IntKind.i64.wrap (j.n + 1), k := if j.s != 0 then IntKind.i64.wrap (j.k + 1) else j.k } else j
def jEntE (j : Jb) (s : Int) : Int := if decide (s < 1) || decide (s > 3) then 2 else if j.s == 3 && s == 2 then 0 else if j.s != 0 then 130 else if s != 1 && decide (j.c ≥ j.t.f) then 170 else 0
def jEnt (j : Jb) (s : Int) : Jb := if jEntE j s == 0 then (if j.s == 3 && s == 2 then { j with s := s } else { j with s := s, k := 0, c := if s != 1 then IntKind.i64.wrap (j.c + 1) else j.c }) else j
def jLeaE (j : Jb) : Int := if j.s == 0 then 132 else 0
def jLea (j : Jb) : Jb := if j.s == 0 then j else { j with s := 0, k := 0 }
def jOver (j : Jb) : Bool := if j.s == 2 then decide (j.k ≥ j.t.e) else if j.s == 1 then decide (j.k ≥ j.t.b) && rowR j.l else false
def jFault (j : Jb) (now : Int) : Int := if j.l.isEmpty then 0 else if decide (now ≥ j.e) then 3 else if decide (j.n ≥ j.t.w) && decide (leftN j.l > 0) then 1 else if jOver j then 2 else 0

def jB (p : Nat) (j : Jb) : Blk := .cells (.ptr p 0 :: ((tk j.t).cells ++ [.int .i64 j.e, .int .i64 j.n, .int .i64 j.s, .int .i64 j.k, .int .i64 j.c, .bool j.g])) true 0
structure JP (h : Heap) (b p C o : Nat) (v : AV) (j : Jb) : Prop where
 lt : b < h.next
 st : h.get b = some (jB p j)
 rw : Rw h p C o [.bool true] v j.l
 n1 : b ≠ p
 n2 : b ≠ C
theorem JP.keep {h h' : Heap} {b p C o : Nat} {v : AV} {j : Jb} (J : JP h b p C o v j) (f : Fr h h' []) : JP h' b p C o v j :=
 ⟨Nat.lt_of_lt_of_le J.lt f.next, (f.keep b J.lt (by simp)).trans J.st, J.rw.keep f, J.n1, J.n2⟩
theorem JP.put {h : Heap} {b p C o : Nat} {v : AV} {j : Jb} (J : JP h b p C o v j) (j' : Jb) (hl : j'.l = j.l) : JP (h.set b (jB p j')) b p C o v j' ∧ Fr h (h.set b (jB p j')) [b] := by
 have fr : Fr h (h.set b (jB p j')) [b] := (Fr.refl _ _).set (by simp)
 have r := J.rw
 rw [← hl] at r
 refine ⟨⟨J.lt, get_set_same, ⟨r.lt, r.ne, (fr.keep p r.lt (by simpa using J.n1.symm)).trans r.st, r.row.keep fr (fun _ => by simpa using J.n2.symm)⟩, J.n1, J.n2⟩, fr⟩
section
variable {h : Heap} {b p C o : Nat} {v : AV} {j : Jb} {Q : AV → Heap → Prop}
theorem jnone_c (J : JP h b p C o v j) (hQ : Q (.bool false) h) : VD fs ms f_job_Job_none [.ptr b 0] h Q := by
 refine vd_start (af := C_job_Job_none) true rfl (yB rfl) ?_
 conv => whnf
 repeat (first | (refine ⟨_, ld1 J.st rfl, ?_⟩; conv => whnf))
 exact hQ
theorem jnext_c (J : JP h b p C o v j) (hQ : ∀ h', Fr h h' [] → Q (.tup [op (j.l.headD opZ), .bool (!j.l.isEmpty)]) h') : VD fs ms f_job_Job_Next [.ptr b 0] h Q := by
 refine vd_start (af := C_job_Job_Next) true rfl (yB rfl) ?_
 conv => whnf
 have J1 := J.keep ((Fr.refl h []).new (x := .cells (op opZ).cells true 0))
 refine jnone_c J1 ?_
 conv => whnf
 repeat (first | (refine ⟨_, ld1 J1.st rfl, ?_⟩; conv => whnf))
 refine anext_c J1.rw fun h2 fr2 => ?_
 conv => whnf
 have g2 : h2.get h.next = some (.cells (op opZ).cells true 0) := (fr2.keep _ (Nat.lt_succ_self _) (by simp)).trans get_new_same
 refine eff_o (sto_o g2 rfl (Nat.le_refl _) rfl) fun h1 e1 => ?_
 conv => whnf
 refine opt_go (res_two rfl (loadN_some (vs := (op (j.l.headD opZ)).cells) (by rw [e1]; exact get_set_same) (Nat.le_refl _)) rfl) ?_
 conv => whnf
 exact hQ _ (by rw [e1]; exact ((((Fr.refl h []).new (x := _)).trans (fr2.wk (by simp))).setn (Nat.le_refl _)))
theorem jdid_c (J : JP h b p C o v j) (hQ : ∀ h' v' o', JP h' b p C o' v' (jDid j) → Fr h h' [b, p] → Q (.int .i64 (jDidE j)) h') : VD fs ms f_job_Job_Did [.ptr b 0] h Q := by
 refine vd_start (af := C_job_Job_Did) true rfl (yB rfl) ?_
 conv => whnf
 refine jnone_c J ?_
 conv => whnf
 repeat (first | (refine ⟨_, ld1 J.st rfl, ?_⟩; conv => whnf))
 refine adid_c J.rw fun h1 v1 o1 r1 fr1 => ?_
 have g1 : h1.get b = some (jB p j) := (fr1.keep b J.lt (by simpa using J.n1)).trans J.st
 have J1 : JP h1 b p C o1 v1 { j with l := didL j.l } := ⟨Nat.lt_of_lt_of_le J.lt fr1.next, g1, r1, J.n1, J.n2⟩
 obtain ⟨J2, fr2⟩ := J1.put (jDid j) rfl
 have fr := (fr1.wk (cs := [b, p]) (by simp)).trans (fr2.wk (by simp))
 have hk := hQ _ _ _ J2 fr
 conv => whnf
 repeat (first | (refine ⟨_, ld1 g1 rfl, ?_⟩; conv => whnf))
 cases hg : j.g <;> cases he : rowE j.l
 all_goals (
  simp only [jDidE, jDid, hg, he] at hk
  conv => whnf
  refine ⟨_, _, sto_o g1 rfl (yB rfl) rfl, ?_⟩
  conv => whnf
  exact hk)
theorem jrun_c (J : JP h b p C o v j) (hQ : ∀ h' v' o', JP h' b p C o' v' (jRun j) → Fr h h' [b, p, C] → Q (.int .i64 (jRunE j)) h') : VD fs ms f_job_Job_Run [.ptr b 0] h Q := by
 refine vd_start (af := C_job_Job_Run) true rfl (yB rfl) ?_
 conv => whnf
 refine jnone_c J ?_
 conv => whnf
 repeat (first | (refine ⟨_, ld1 J.st rfl, ?_⟩; conv => whnf))
 refine br (fun hc => ?_) (fun hc => ?_) <;> (try rw [hc]) <;> (conv => whnf)
 ·have e : jRunE j = 250 := by rw [jRunE, if_pos hc]
  have hk := hQ h v o (by rw [jRun, e]; exact J) (Fr.refl _ _)
  rw [e] at hk
  exact hk
 have h3 := hc
 repeat (first | (refine ⟨_, ld1 J.st rfl, ?_⟩; conv => whnf))
 refine aran_c J.rw fun h1 v1 o1 r1 fr1 => ?_
 have g1 : h1.get b = some (jB p j) := (fr1.keep b J.lt (by simp [J.n1, J.n2])).trans J.st
 have J1 : JP h1 b p C o1 v1 { j with l := ranL j.l } := ⟨Nat.lt_of_lt_of_le J.lt fr1.next, g1, r1, J.n1, J.n2⟩
 have fr1 : Fr h h1 [b, p, C] := fr1.wk (by simp)
 have e : jRunE j = if rowR j.l then 0 else 250 := by rw [jRunE, if_neg (by rw [h3]; simp)]
 cases hr : rowR j.l with
 | false =>
  rw [hr] at e
  have hl : ranL j.l = j.l := by
   revert hr
   cases j.l with
   | nil => intro _; rfl
   | cons x r => intro hr; have hr : (x.k == 1) = false := hr; simp only [ranL, hr]; rfl
  rw [hl] at J1
  have hk := hQ _ _ _ (show JP h1 b p C o1 v1 (jRun j) by rw [jRun, e]; exact J1) fr1
  rw [e] at hk
  conv => whnf
  exact hk
 | true =>
  rw [hr] at e
  have e2 : jRun j = { j with l := ranL j.l, g := true, n := IntKind.i64.wrap (j.n + 1), k := if j.s != 0 then IntKind.i64.wrap (j.k + 1) else j.k } := by rw [jRun, e]; rfl
  rw [e, e2] at hQ
  conv => whnf
  obtain ⟨J2, fr2⟩ := J1.put { j with l := ranL j.l, g := true } rfl
  refine ⟨_, _, sto_o g1 rfl (yB rfl) rfl, ?_⟩
  conv => whnf
  repeat (first | (refine ⟨_, ld1 J2.st rfl, ?_⟩; conv => whnf))
  obtain ⟨J3, fr3⟩ := J2.put { j with l := ranL j.l, g := true, n := IntKind.i64.wrap (j.n + 1) } rfl
  refine ⟨_, _, sto_o J2.st rfl (yB rfl) rfl, ?_⟩
  conv => whnf
  repeat (first | (refine ⟨_, ld1 J3.st rfl, ?_⟩; conv => whnf))
  have fr : Fr h _ [b, p, C] := fr1.trans ((fr2.trans fr3).wk (by simp))
  refine br (fun hc => ?_) (fun hc => ?_) <;> (try rw [hc]) <;> (conv => whnf)
  ·rw [if_pos hc] at hQ
   repeat (first | (refine ⟨_, ld1 J3.st rfl, ?_⟩; conv => whnf))
   obtain ⟨J4, fr4⟩ := J3.put { j with l := ranL j.l, g := true, n := IntKind.i64.wrap (j.n + 1), k := IntKind.i64.wrap (j.k + 1) } rfl
   refine ⟨_, _, sto_o J3.st rfl (yB rfl) rfl, ?_⟩
   conv => whnf
   exact hQ _ _ _ J4 (fr.trans (fr4.wk (by simp)))
  ·rw [if_neg (by rw [hc]; simp)] at hQ
   exact hQ _ _ _ J3 fr
theorem jent_c {s : Int} (J : JP h b p C o v j) (hQ : ∀ h', JP h' b p C o v (jEnt j s) → Fr h h' [b] → Q (.int .i64 (jEntE j s)) h') : VD fs ms f_job_Job_Enter [.ptr b 0, .int .i64 s] h Q := by
 refine vd_start (af := C_job_Job_Enter) true rfl (yB rfl) ?_
 have hno : ∀ e, jEntE j s = e → (e == 0) = false → Q (.int .i64 e) h := by
  intro e he h0
  have hk := hQ h (by rw [jEnt, he, h0]; exact J) (Fr.refl _ _)
  rw [he] at hk
  exact hk
 conv => whnf
 refine jnone_c J ?_
 conv => whnf
 refine br (fun hc => ?_) (fun hc => ?_) <;> (try rw [hc]) <;> (conv => whnf)
 ·exact hno 2 (by rw [jEntE, if_pos (by rw [hc]; rfl)]) rfl
 have c1 := hc
 refine br (fun hc => ?_) (fun hc => ?_) <;> (try rw [hc]) <;> (conv => whnf)
 ·exact hno 2 (by rw [jEntE, if_pos (by rw [hc]; simp)]) rfl
 have c2 := hc
 repeat (first | (refine ⟨_, ld1 J.st rfl, ?_⟩; conv => whnf))
 have e0 : jEntE j s = if j.s == 3 && s == 2 then 0 else if j.s != 0 then 130 else if s != 1 && decide (j.c ≥ j.t.f) then 170 else 0 := by rw [jEntE, if_neg (by rw [c1, c2]; simp)]
 refine br (fun hc => ?_) (fun hc => ?_) <;> (try rw [hc]) <;> (conv => whnf)
 ·have h3 := hc
  rw [hc, Bool.true_and] at e0
  repeat (first | (refine ⟨_, ld1 J.st rfl, ?_⟩; conv => whnf))
  refine br (fun hc => ?_) (fun hc => ?_) <;> (try rw [hc]) <;> (conv => whnf)
  ·have e : jEntE j s = 0 := by rw [e0, if_pos hc]
   obtain ⟨J2, fr2⟩ := J.put { j with s := s } rfl
   have hk := hQ _ (show JP _ b p C o v (jEnt j s) by rw [jEnt, e, h3, hc]; exact J2) fr2
   rw [e] at hk
   refine ⟨_, _, sto_o J.st rfl (yB rfl) rfl, ?_⟩
   conv => whnf
   exact hk
  ·have hne : (j.s != 0) = true := by have := eq_of_beq h3; rw [this]; rfl
   rw [if_neg (by rw [hc]; simp), if_pos hne] at e0
   repeat (first | (refine ⟨_, ld1 J.st rfl, ?_⟩; conv => whnf))
   refine brt (hne) (fun hc => ?_)
   (try rw [hc])
   conv => whnf
   exact hno 130 e0 rfl
 ·have h3 := hc
  rw [hc, Bool.false_and, if_neg (by simp)] at e0
  repeat (first | (refine ⟨_, ld1 J.st rfl, ?_⟩; conv => whnf))
  refine br (fun hc => ?_) (fun hc => ?_) <;> (try rw [hc]) <;> (conv => whnf)
  ·rw [if_pos hc] at e0
   exact hno 130 e0 rfl
  rw [if_neg (by rw [hc]; simp)] at e0
  have fin : jEntE j s = 0 → jEnt j s = { j with s := s, k := 0, c := if s != 1 then IntKind.i64.wrap (j.c + 1) else j.c } := by
   intro e
   simp [jEnt, e, h3]
  refine br (fun hc => ?_) (fun hc => ?_) <;> (try rw [hc]) <;> (conv => whnf)
  ·have h1 := hc
   rw [hc, Bool.true_and] at e0
   repeat (first | (refine ⟨_, ld1 J.st rfl, ?_⟩; conv => whnf))
   refine br (fun hc => ?_) (fun hc => ?_) <;> (try rw [hc]) <;> (conv => whnf)
   ·rw [if_pos hc] at e0
    exact hno 170 e0 rfl
   rw [if_neg (by rw [hc]; simp)] at e0
   have fin := fin e0
   rw [h1, if_pos rfl] at fin
   rw [e0, fin] at hQ
   refine brt (h1) (fun hc => ?_)
   (try rw [hc])
   conv => whnf
   repeat (first | (refine ⟨_, ld1 J.st rfl, ?_⟩; conv => whnf))
   obtain ⟨J2, fr2⟩ := J.put { j with c := IntKind.i64.wrap (j.c + 1) } rfl
   refine ⟨_, _, sto_o J.st rfl (yB rfl) rfl, ?_⟩
   conv => whnf
   obtain ⟨J3, fr3⟩ := J2.put { j with c := IntKind.i64.wrap (j.c + 1), s := s } rfl
   refine ⟨_, _, sto_o J2.st rfl (yB rfl) rfl, ?_⟩
   conv => whnf
   obtain ⟨J4, fr4⟩ := J3.put { j with c := IntKind.i64.wrap (j.c + 1), s := s, k := 0 } rfl
   refine ⟨_, _, sto_o J3.st rfl (yB rfl) rfl, ?_⟩
   conv => whnf
   exact hQ _ J4 ((fr2.trans fr3).trans fr4)
  ·have h1 := hc
   rw [hc, Bool.false_and, if_neg (by simp)] at e0
   have fin := fin e0
   rw [h1, if_neg (by simp)] at fin
   rw [e0, fin] at hQ
   refine brf (h1) (fun hc => ?_)
   (try rw [hc])
   conv => whnf
   obtain ⟨J3, fr3⟩ := J.put { j with s := s } rfl
   refine ⟨_, _, sto_o J.st rfl (yB rfl) rfl, ?_⟩
   conv => whnf
   obtain ⟨J4, fr4⟩ := J3.put { j with s := s, k := 0 } rfl
   refine ⟨_, _, sto_o J3.st rfl (yB rfl) rfl, ?_⟩
   conv => whnf
   exact hQ _ J4 (fr3.trans fr4)
theorem jlea_c (J : JP h b p C o v j) (hQ : ∀ h', JP h' b p C o v (jLea j) → Fr h h' [b] → Q (.int .i64 (jLeaE j)) h') : VD fs ms f_job_Job_Leave [.ptr b 0] h Q := by
 refine vd_start (af := C_job_Job_Leave) true rfl (yB rfl) ?_
 conv => whnf
 refine jnone_c J ?_
 conv => whnf
 repeat (first | (refine ⟨_, ld1 J.st rfl, ?_⟩; conv => whnf))
 refine br (fun hc => ?_) (fun hc => ?_) <;> (try rw [hc]) <;> (conv => whnf)
 ·rw [jLea, jLeaE, if_pos hc, if_pos hc] at hQ
  exact hQ _ J (Fr.refl _ _)
 ·rw [jLea, jLeaE, if_neg (by rw [hc]; simp), if_neg (by rw [hc]; simp)] at hQ
  obtain ⟨J3, fr3⟩ := J.put { j with s := 0 } rfl
  refine ⟨_, _, sto_o J.st rfl (yB rfl) rfl, ?_⟩
  conv => whnf
  obtain ⟨J4, fr4⟩ := J3.put { j with s := 0, k := 0 } rfl
  refine ⟨_, _, sto_o J3.st rfl (yB rfl) rfl, ?_⟩
  conv => whnf
  exact hQ _ J4 (fr3.trans fr4)
theorem jdead_c (J : JP h b p C o v j) (hQ : Q (.int .i64 j.e) h) : VD fs ms f_job_Job_Deadline [.ptr b 0] h Q := by
 refine vd_start (af := C_job_Job_Deadline) true rfl (yB rfl) ?_
 conv => whnf
 refine jnone_c J ?_
 conv => whnf
 repeat (first | (refine ⟨_, ld1 J.st rfl, ?_⟩; conv => whnf))
 exact hQ
theorem jin_c (J : JP h b p C o v j) (hQ : Q (.tup [.int .i64 j.s, .int .i64 j.k]) h) : VD fs ms f_job_Job_In [.ptr b 0] h Q := by
 refine vd_start (af := C_job_Job_In) true rfl (yB rfl) ?_
 conv => whnf
 refine jnone_c J ?_
 conv => whnf
 repeat (first | (refine ⟨_, ld1 J.st rfl, ?_⟩; conv => whnf))
 exact hQ
theorem jbeg_c (J : JP h b p C o v j) (hQ : Q (.bool j.g) h) : VD fs ms f_job_Job_Begun [.ptr b 0] h Q := by
 refine vd_start (af := C_job_Job_Begun) true rfl (yB rfl) ?_
 conv => whnf
 refine jnone_c J ?_
 conv => whnf
 repeat (first | (refine ⟨_, ld1 J.st rfl, ?_⟩; conv => whnf))
 exact hQ
theorem jover_c {x : Op} (J : JP h b p C o v j) (hx : (x.k == 1) = rowR j.l) (hQ : ∀ h', Fr h h' [] → Q (.bool (jOver j)) h') : VD fs ms f_job_Job_over [.ptr b 0, op x] h Q := by
 refine vd_start (af := C_job_Job_over) true rfl (yB rfl) ?_
 conv => whnf
 have J1 := J.keep ((Fr.refl h []).new (x := .cells (op x).cells true 0))
 have fr : Fr h (h.new (.cells (op x).cells true 0)) [] := (Fr.refl h []).new
 repeat (first | (refine ⟨_, ld1 J1.st rfl, ?_⟩; conv => whnf))
 rw [jOver] at hQ
 refine br (fun hc => ?_) (fun hc => ?_) <;> (try rw [hc]) <;> (conv => whnf)
 ·rw [if_pos hc] at hQ
  repeat (first | (refine ⟨_, ld1 J1.st rfl, ?_⟩; conv => whnf))
  exact hQ _ fr
 ·rw [if_neg (by rw [hc]; simp)] at hQ
  refine br (fun hc => ?_) (fun hc => ?_) <;> (try rw [hc]) <;> (conv => whnf)
  ·rw [if_pos hc] at hQ
   repeat (first | (refine ⟨_, ld1 J1.st rfl, ?_⟩; conv => whnf))
   refine br (fun hc => ?_) (fun hc => ?_) <;> (try rw [hc]) <;> (conv => whnf)
   ·rw [hc, Bool.true_and, ← hx] at hQ
    refine ⟨_, ld1 get_new_same rfl, ?_⟩
    conv => whnf
    exact hQ _ fr
   ·rw [hc, Bool.false_and] at hQ
    exact hQ _ fr
  ·rw [if_neg (by rw [hc]; simp)] at hQ
   exact hQ _ fr
end
section
variable {h : Heap} {b p C o : Nat} {v : AV} {j : Jb} {Q : AV → Heap → Prop}
theorem jfault_c {now : Int} (J : JP h b p C o v j) (hl : j.l.length ≤ 64) (hQ : ∀ h', Fr h h' [] → Q (.int .i64 (jFault j now)) h') : VD fs ms f_job_Job_Fault [.ptr b 0, .int .i64 now] h Q := by
 refine vd_start (af := C_job_Job_Fault) true rfl (yB rfl) ?_
 conv => whnf
 refine jnext_c J fun h1 fr1 => ?_
 rw [jFault] at hQ
 cases hj : j.l with
 | nil =>
  conv => whnf
  refine eff_o (sto_o get_new_same rfl (Nat.le_refl _) rfl) fun h2 e2 => ?_
  conv => whnf
  rw [hj] at hQ
  exact hQ _ (by rw [e2]; exact ((fr1.new (x := _)).setn fr1.next))
 | cons x l =>
  conv => whnf
  refine eff_o (sto_o get_new_same rfl (Nat.le_refl _) rfl) fun h2 e2 => ?_
  have g2 : h2.get h1.next = some (.cells (op x).cells true 0) := by rw [e2]; exact get_set_same
  have fr2 : Fr h h2 [] := by rw [e2]; exact ((fr1.new (x := _)).setn fr1.next)
  have n2 : h1.next < h2.next := by rw [e2]; exact Nat.lt_succ_self _
  clear e2
  have J2 := J.keep fr2
  rw [if_neg (by rw [hj]; simp)] at hQ
  conv => whnf
  repeat (first | (refine ⟨_, ld1 J2.st rfl, ?_⟩; conv => whnf))
  refine br (fun hc => ?_) (fun hc => ?_) <;> (try rw [hc]) <;> (conv => whnf)
  ·rw [if_pos hc] at hQ
   exact hQ _ fr2
  rw [if_neg (by rw [hc]; simp)] at hQ
  repeat (first | (refine ⟨_, ld1 J2.st rfl, ?_⟩; conv => whnf))
  refine br (fun hc => ?_) (fun hc => ?_) <;> (try rw [hc]) <;> (conv => whnf)
  ·rw [hc, Bool.true_and] at hQ
   repeat (first | (refine ⟨_, ld1 J2.st rfl, ?_⟩; conv => whnf))
   refine aleft_c J2.rw hl fun h3 fr3 => ?_
   conv => whnf
   refine br (fun hc => ?_) (fun hc => ?_) <;> (try rw [hc]) <;> (conv => whnf)
   ·rw [if_pos hc] at hQ
    exact hQ _ (fr2.trans fr3)
   ·rw [if_neg (by rw [hc]; simp)] at hQ
    refine ⟨_, Ads.ldN (n := 3) ((fr3.keep _ n2 (by simp)).trans g2) (Nat.le_refl _), ?_⟩
    conv => whnf
    refine jover_c (x := x) (J2.keep fr3) (by rw [hj]; rfl) fun h4 fr4 => ?_
    conv => whnf
    refine br (fun hc => ?_) (fun hc => ?_) <;> (try rw [hc]) <;> (conv => whnf)
    ·rw [if_pos hc] at hQ
     exact hQ _ ((fr2.trans fr3).trans fr4)
    ·rw [if_neg (by rw [hc]; simp)] at hQ
     exact hQ _ ((fr2.trans fr3).trans fr4)
  ·rw [hc, Bool.false_and, if_neg (by simp)] at hQ
   refine ⟨_, Ads.ldN (n := 3) g2 (Nat.le_refl _), ?_⟩
   conv => whnf
   refine jover_c (x := x) J2 (by rw [hj]; rfl) fun h4 fr4 => ?_
   conv => whnf
   refine br (fun hc => ?_) (fun hc => ?_) <;> (try rw [hc]) <;> (conv => whnf)
   ·rw [if_pos hc] at hQ
    exact hQ _ (fr2.trans fr4)
   ·rw [if_neg (by rw [hc]; simp)] at hQ
    exact hQ _ (fr2.trans fr4)
end
section
variable {h : Heap} {b p C o : Nat} {v : AV} {j : Jb} {Q : AV → Heap → Prop}
end
section
variable {h : Heap} {b p C o : Nat} {v : AV} {j : Jb} {Q : AV → Heap → Prop}
end
theorem Rw.any {h : Heap} {b C C' o : Nat} {tl : List AV} {v : AV} {l : List Op} (r : Rw h b C o tl v l) (hc : l ≠ [] → C' = C) : Rw h b C' o tl v l := by
 cases l with
 | nil => exact ⟨r.lt, fun h => (h rfl).elim, r.st, r.row⟩
 | cons x l => rw [hc (by simp)]; exact r
def jnewE (t : Tk) (l : List Op) (a : Int) : Int := if !tasksOk [t] || decide (a < 0) then 2 else if decide (a > 1099511627776) then 10 else newE l
def jNew (t : Tk) (l : List Op) (a : Int) : Jb := ⟨t, l, IntKind.i64.wrap (a + t.d), 0, 0, 0, 0, false⟩
section
variable {h : Heap} {Q : AV → Heap → Prop} {t : Tk} {l : List Op} {a : Int} {k : Nat}
theorem demOne (t : Tk) : demCheck [t] [0] = if tasksOk [t] then 0 else 2 := by
 have : moreBad 0 = false := by decide
 cases c : tasksOk [t] <;> simp [demCheck, c, this]
theorem jnew_c (hk : k = 3 → l = []) (hl : l.length < 2 ^ 62) (h0 : jnewE t l a ≠ 0 → ∀ h', Fr h h' [] → Q (.tup [.nilp, .int .i64 (jnewE t l a)]) h')
  (h1 : jnewE t l a = 0 → ∀ h' b p C v, JP h' b p C 0 v (jNew t l a) → h.next ≤ b → h.next ≤ p → h.next ≤ C → (l ≠ [] → C < h'.next) → Fr h h' [] → Q (.tup [.ptr b 0, .int .i64 0]) h') : VD fs ms f_job_New [tk t, .fz k (ops l), .int .i64 a] h Q := by
 refine vd_start (af := C_job_New) true rfl (yB rfl) ?_
 conv => whnf
 refine ⟨_, Ads.ldN (n := 8) get_new_same (Nat.le_refl _), ?_⟩
 conv => whnf
 let H2 := (h.new (.cells (tk t).cells true 0)).new (.cells (tk t).cells true 0)
 let H3 := H2.new (.cells [.int .i64 0] true 0)
 have fr0 : Fr h H3 [] := (((Fr.refl h []).new (x := _)).new (x := _)).new (x := _)
 have n1 : h.next < H2.next := Nat.lt_succ_of_lt (Nat.lt_succ_self _)
 have n0 : h.next < H3.next := Nat.lt_succ_of_lt n1
 have g0 : H3.get h.next = some (.cells (tk t).cells true 0) := by
  rw [get_new_ne n1, get_new_ne (Nat.lt_succ_self _)]; exact get_new_same
 have g1 : H3.get (h.next + 1) = some (.cells (tk t).cells true 0) := by
  rw [get_new_ne (Nat.lt_succ_self _)]; exact get_new_same
 refine vd_view (check_c 2 2 [t] [0] (by simp) (by simp)) rfl (.cons (.row (s := 8) trivial g1 rfl rfl rfl (Nat.le_refl _) (by omega) (fun _ => rfl) (fun _ => rfl) (cl_tks _)) (.cons (.row (s := 1) trivial (get_new_same (h := H2)) rfl rfl rfl (Nat.le_refl _) (by omega) (fun _ => rfl) (fun _ => rfl) (cl_ints _)) .nil)) ?_
 rw [demOne]
 have e1 : jnewE t l a = if !tasksOk [t] || decide (a < 0) then 2 else if decide (a > 1099511627776) then 10 else newE l := rfl
 cases c1 : tasksOk [t] with
 | false =>
  rw [c1] at e1
  rw [e1] at h0
  conv => whnf
  exact h0 (by simp) _ fr0
 | true =>
 rw [c1] at e1
 conv => whnf
 refine br (fun hc => ?_) (fun hc => ?_) <;> (try rw [hc]) <;> (conv => whnf)
 ·rw [hc] at e1
  rw [e1] at h0
  exact h0 (by simp) _ fr0
 rw [hc, Bool.not_true, Bool.false_or, if_neg (by simp)] at e1
 refine br (fun hc => ?_) (fun hc => ?_) <;> (try rw [hc]) <;> (conv => whnf)
 ·rw [if_pos hc] at e1
  rw [e1] at h0
  exact h0 (by simp) _ fr0
 rw [if_neg (by rw [hc]; simp)] at e1
 rw [e1] at h0 h1
 refine anew_c hk hl (fun hn h2 fr => ?_) (fun hz h2 p C v r hp hC hlt fr => ?_)
 ·conv => whnf
  refine brt ((by simpa using hn)) (fun hc => ?_)
  (try rw [hc])
  conv => whnf
  exact h0 hn _ (fr0.trans fr)
 ·conv => whnf
  refine ⟨_, Ads.ldN (n := 8) ((fr.keep _ n0 (by simp)).trans g0) (Nat.le_refl _), ?_⟩
  conv => whnf
  refine ⟨_, ld1 ((fr.keep _ n0 (by simp)).trans g0) rfl, ?_⟩
  conv => whnf
  have fr3 : Fr h (h2.new (jB p (jNew t l a))) [] := (fr0.trans fr).new
  have r3 : Rw (h2.new (jB p (jNew t l a))) p (if l = [] then h2.next + 1 else C) 0 [.bool true] v l := (r.keep ((Fr.refl _ []).new)).any (fun hn => if_neg hn)
  refine h1 hz _ h2.next p _ v ⟨Nat.lt_succ_self _, get_new_same, r3, ?_, ?_⟩ ?_ ?_ ?_ ?_ fr3
  ·have := r.lt; omega
  ·by_cases hn : l = []
   ·rw [if_pos hn]; omega
   ·rw [if_neg hn]; have := hlt hn; omega
  ·exact (fr0.trans fr).next
  ·exact Nat.le_trans fr0.next hp
  ·have := (fr0.trans fr).next
   have := Nat.le_trans fr0.next hC
   by_cases hn : l = []
   ·rw [if_pos hn]; omega
   ·rw [if_neg hn]; omega
  ·intro hn
   rw [if_neg hn]
   exact Nat.lt_succ_of_lt (hlt hn)
end
end Ir
end Go.Proofs.YtnlcabhfkpafmaaGreat
