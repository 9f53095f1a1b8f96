/-
  Rows that grow while another one grows: three blocks, of which some may be missing.
-/
import Derived.Test.YtlndlbngfgaoeaaVsRows
import Derived.Test.YtlndlbngfgaoeaaVsTop
set_option maxRecDepth 100000
set_option linter.unusedSimpArgs false
set_option linter.unusedVariables false
namespace Go.Proofs.Ytlndlbngfgaoeaa
open Go Ads
namespace Ads

section
variable {fs : Nat → Option AFunc} {ms : Nat → String → Option Nat} {rd : Bool}
theorem for_rowL {c : AC} {Q : AX → Env → Heap → Prop} (B d N : Nat) (I : Nat → Prop) (E : Nat → List (Nat × AV)) (H : Nat → Heap)
  (step : ∀ j, j < N → I j → vpC fs ms B rd false c (ek d (E j)) (H j) fun x e1 h1 => match x with | .normal => I (j + 1) ∧ ∃ p, GC B p e1 h1 (ek d (E (j + 1))) (H (j + 1)) | x => Q x e1 h1)
  (last : I N → VC fs ms B rd (.loop c) (ek d (E N)) (H N) Q)
  (h0 : I 0) : VC fs ms B rd (.loop c) (ek d (E 0)) (H 0) Q := by
 have : ∀ r j, j + r = N → I j → VC fs ms B rd (.loop c) (ek d (E j)) (H j) Q := by
  intro r
  induction r with
  | zero =>
   intro j hj hi
   have : j = N := by omega
   subst this
   exact last hi
  | succ r ih =>
   intro j hj hi
   obtain ⟨x, e1, h1, hb, hk⟩ := vpC_sound (step j (by omega) hi)
   cases x with
   | normal =>
    obtain ⟨hi', p, hr⟩ := hk
    obtain ⟨x2, e2, h2, hb2, hk2⟩ := vc_gc hr (ih (j + 1) (by omega) hi')
    exact ⟨_, _, _, .loopN hb hb2, hk2⟩
   | exit i => exact ⟨_, _, _, .loopX hb rfl, hk⟩
   | ret => exact ⟨_, _, _, .loopX hb rfl, hk⟩
   | panic v => exact ⟨_, _, _, .loopX hb rfl, hk⟩
 exact this N 0 (by omega) h0
theorem for_rowZ {c : AC} {Q : AX → Env → Heap → Prop} (d N : Nat) (E : Nat → List (Nat × AV))
  (step : ∀ j, j < N → vpC fs ms 0 rd false c (ek d (E j)) (hk 0 []) fun x e1 h1 => match x with | .normal => True ∧ RenAt id 0 e1 (E (j + 1)) | x => Q x e1 h1)
  (last : VC fs ms 0 rd (.loop c) (ek d (E N)) (hk 0 []) Q) : VC fs ms 0 rd (.loop c) (ek d (E 0)) (hk 0 []) Q := by
 have : ∀ r j, j + r = N → VC fs ms 0 rd (.loop c) (ek d (E j)) (hk 0 []) Q := by
  intro r
  induction r with
  | zero =>
   intro j hj
   have : j = N := by omega
   subst this
   exact last
  | succ r ih =>
   intro j hj
   obtain ⟨x, e1, h1, hb, hk⟩ := vpC_sound (step j (by omega))
   cases x with
   | normal =>
    obtain ⟨x2, e2, h2, hb2, hk2⟩ := vc_to0 (h := h1) d (E (j + 1)) hk.2 (ih (j + 1) (by omega))
    exact ⟨_, _, _, .loopN hb hb2, hk2⟩
   | exit i => exact ⟨_, _, _, .loopX hb rfl, hk⟩
   | ret => exact ⟨_, _, _, .loopX hb rfl, hk⟩
   | panic v => exact ⟨_, _, _, .loopX hb rfl, hk⟩
 exact this N 0 (by omega)
theorem for_rowV {c : AC} {Q : AX → Env → Heap → Prop} (B d N : Nat) (E : Nat → List (Nat × AV)) (H : Nat → Heap)
  (step : ∀ j, j < N → ∀ K : AX → Env → Heap → Prop, (∀ e1 h1 p, GC B p e1 h1 (ek d (E (j + 1))) (H (j + 1)) → K .normal e1 h1) → VC fs ms B rd c (ek d (E j)) (H j) K)
  (last : VC fs ms B rd (.loop c) (ek d (E N)) (H N) Q) : VC fs ms B rd (.loop c) (ek d (E 0)) (H 0) Q := by
 have : ∀ r j, j + r = N → VC fs ms B rd (.loop c) (ek d (E j)) (H j) Q := by
  intro r
  induction r with
  | zero =>
   intro j hj
   have : j = N := by omega
   subst this
   exact last
  | succ r ih =>
   intro j hj
   obtain ⟨x, e1, h1, hb, hk⟩ := step j (by omega) (fun x e1 h1 => x = .normal ∧ ∃ p, GC B p e1 h1 (ek d (E (j + 1))) (H (j + 1))) (fun e1 h1 p hg => ⟨rfl, p, hg⟩)
   obtain ⟨rfl, p, hr⟩ := hk
   obtain ⟨x2, e2, h2, hb2, hk2⟩ := vc_gc hr (ih (j + 1) (by omega))
   exact ⟨_, _, _, .loopN hb hb2, hk2⟩
 exact this N 0 (by omega)
theorem vc_seqV {B : Nat} {a b : AC} {e : Env} {h : Heap} {Q : AX → Env → Heap → Prop}
  (hw : VC fs ms B rd a e h fun x e1 h1 => match x with | .normal => VC fs ms B rd b e1 h1 Q | x => Q x e1 h1) : VC fs ms B rd (.seq a b) e h Q := by
 obtain ⟨x, e1, h1, hb, hk⟩ := hw
 cases x with
 | normal =>
  obtain ⟨x2, e2, h2, hb2, hk2⟩ := hk
  exact ⟨_, _, _, .seqN hb hb2, hk2⟩
 | exit i => exact ⟨_, _, _, .seqX hb rfl, hk⟩
 | ret => exact ⟨_, _, _, .seqX hb rfl, hk⟩
 | panic v => exact ⟨_, _, _, .seqX hb rfl, hk⟩
theorem vc_block {B id : Nat} {c : AC} {e : Env} {h : Heap} {Q : AX → Env → Heap → Prop}
  (hw : VC fs ms B rd c e h fun x e1 h1 => match x with | .exit i => (if i = id then Q .normal e1 h1 else Q (.exit i) e1 h1) | x => Q x e1 h1) : VC fs ms B rd (.block id c) e h Q := by
 obtain ⟨x, e1, h1, hb, hk⟩ := hw
 cases x with
 | normal => exact ⟨_, _, _, .blockN hb (by intro i hi; cases hi), hk⟩
 | exit i =>
  by_cases hi : i = id
  ·subst hi
   simp only [if_true] at hk
   exact ⟨_, _, _, .blockX hb, hk⟩
  ·simp only [hi, if_false] at hk
   exact ⟨_, _, _, .blockN hb (by intro i2 hi2; cases hi2; exact hi), hk⟩
 | ret => exact ⟨_, _, _, .blockN hb (by intro i hi; cases hi), hk⟩
 | panic v => exact ⟨_, _, _, .blockN hb (by intro i hi; cases hi), hk⟩
end

abbrev H3 (O X I : Option Blk) : Heap := ⟨3, .node (.node .nil X .nil) O (.node .nil I .nil)⟩
theorem get3 {b : Nat} {O X I : Option Blk} {x : Blk} (h : (H3 O X I).get b = some x) : (b = 0 ∧ O = some x) ∨ (b = 1 ∧ X = some x) ∨ (b = 2 ∧ I = some x) := by
 match b, h with
 | 0, h => exact .inl ⟨rfl, h⟩
 | 1, h => exact .inr (.inl ⟨rfl, h⟩)
 | 2, h => exact .inr (.inr ⟨rfl, h⟩)
 | b + 3, h =>
  exfalso
  rcases Nat.mod_two_eq_zero_or_one (b + 3) with h2 | h2
  ·have e1 : Nat.beq ((b + 3) / 2 - 1) 0 = false := by
    cases hq : (b + 3) / 2 - 1 with
    | zero => omega
    | succ n => rfl
   simp only [Heap.get, Tr.get, h2, e1, show Nat.beq (b + 3) 0 = false from rfl, cond_false, show Nat.beq 0 1 = false from rfl] at h
   revert h
   cases Nat.beq (((b + 3) / 2 - 1) % 2) 1 <;> simp
  ·have e1 : Nat.beq ((b + 3) / 2) 0 = false := by
    cases hq : (b + 3) / 2 with
    | zero => omega
    | succ n => rfl
   simp only [Heap.get, Tr.get, h2, e1, show Nat.beq (b + 3) 0 = false from rfl, cond_false, show Nat.beq 1 1 = true from rfl, cond_true] at h
   revert h
   cases Nat.beq (((b + 3) / 2) % 2) 1 <;> simp

theorem gc3 {B : Nat} {e : Env} {h : Heap} {d : Nat} {l : List (Nat × AV)} {O X I : Option Blk} (p : Nat → Nat) (hl : RenAt p 3 e l)
  (hO : ∀ x, O = some x → ∃ y, h.get (p 0) = some y ∧ RenB p 3 x y) (hX : ∀ x, X = some x → ∃ y, h.get (p 1) = some y ∧ RenB p 3 x y) (hI : ∀ x, I = some x → ∃ y, h.get (p 2) = some y ∧ RenB p 3 x y)
  (h01 : p 0 ≠ p 1) (h02 : p 0 ≠ p 2) (h12 : p 1 ≠ p 2) (hfix : ∀ b, b < B → p b = b) (hn : B ≤ 3) : GC B p e h (ek d l) (H3 O X I) := by
 refine ⟨?_, ?_, ?_, hfix, hn⟩
 ·intro i v hv
  exact renAt_get hl (sk_low d _ i v hv)
 ·intro b x hx
  rcases get3 hx with ⟨rfl, h1⟩ | ⟨rfl, h1⟩ | ⟨rfl, h1⟩
  ·exact ⟨by show 0 < 3; omega, hO x h1⟩
  ·exact ⟨by show 1 < 3; omega, hX x h1⟩
  ·exact ⟨by show 2 < 3; omega, hI x h1⟩
 ·intro b c hb hc he
  cases hx : (H3 O X I).get b with
  | none => exact absurd hx hb
  | some x =>
   cases hy : (H3 O X I).get c with
   | none => exact absurd hy hc
   | some y =>
    rcases get3 hx with ⟨rfl, -⟩ | ⟨rfl, -⟩ | ⟨rfl, -⟩ <;> rcases get3 hy with ⟨rfl, -⟩ | ⟨rfl, -⟩ | ⟨rfl, -⟩ <;> first | rfl | exact absurd he h01 | exact absurd he h02 | exact absurd he h12 | exact absurd he.symm h01 | exact absurd he.symm h02 | exact absurd he.symm h12
theorem vc_to3 {fs : Nat → Option AFunc} {ms : Nat → String → Option Nat} {B : Nat} {rd : Bool} {c : AC} {e : Env} {h : Heap} {Q : AX → Env → Heap → Prop} {d : Nat} {l : List (Nat × AV)} {O X I : Option Blk} (p : Nat → Nat) (hl : RenAt p 3 e l)
  (hO : ∀ x, O = some x → ∃ y, h.get (p 0) = some y ∧ RenB p 3 x y) (hX : ∀ x, X = some x → ∃ y, h.get (p 1) = some y ∧ RenB p 3 x y) (hI : ∀ x, I = some x → ∃ y, h.get (p 2) = some y ∧ RenB p 3 x y)
  (h01 : p 0 ≠ p 1) (h02 : p 0 ≠ p 2) (h12 : p 1 ≠ p 2) (hfix : ∀ b, b < B → p b = b) (hn : B ≤ 3) (hw : VC fs ms B rd c (ek d l) (H3 O X I) Q) : VC fs ms B rd c e h Q :=
 vc_gc (gc3 p hl hO hX hI h01 h02 h12 hfix hn) hw

def Cln (O : Option Blk) : Prop := ∀ x, O = some x → ∃ M s, x = .cells M true s ∧ clL M = true
theorem cln_ren {O : Option Blk} {p : Nat → Nat} {n : Nat} {h : Heap} {b : Nat} (hc : Cln O) (hg : h.get b = O) : ∀ x, O = some x → ∃ y, h.get b = some y ∧ RenB p n x y := by
 intro x hx
 obtain ⟨M, s, rfl, hM⟩ := hc x hx
 exact ⟨_, hg.trans hx, renB_cl rfl hM⟩
theorem no_blk {h : Heap} {b : Nat} {p : Nat → Nat} {n : Nat} : ∀ x, (none : Option Blk) = some x → ∃ y, h.get b = some y ∧ RenB p n x y := by
 intro x hx
 cases hx
theorem one_blk {h : Heap} {b : Nat} {p : Nat → Nat} {n : Nat} {z : Blk} (hg : ∃ y, h.get b = some y ∧ RenB p n z y) : ∀ x, some z = some x → ∃ y, h.get b = some y ∧ RenB p n x y := by
 intro x hx
 cases hx
 exact hg

theorem renB_3 {p : Nat → Nat} {n es : Nat} {wr : Bool} {a b c a' b' c' : AV} (h1 : Ren p n a a') (h2 : Ren p n b b') (h3 : Ren p n c c') : RenB p n (.cells [a, b, c] wr es) (.cells [a', b', c'] wr es) := by
 refine .cells rfl fun i x y hx hy => ?_
 match i, hx, hy with
 | 0, hx, hy => cases hx; cases hy; exact h1
 | 1, hx, hy => cases hx; cases hy; exact h2
 | 2, hx, hy => cases hx; cases hy; exact h3

def grV (b : Nat) : Nat → AV
 | 0 => .nils
 | j + 1 => .sl b 0 (j + 1) (j + 1) true
def grO (s : Nat) (L : List AV) : Nat → Option Blk
 | 0 => none
 | j + 1 => some (.cells (flatCells (L.take (j + 1))) true s)
theorem flat_cl : ∀ {l : List AV}, clL l = true → clL (flatCells l) = true
 | [], _ => rfl
 | x :: l, h => by
  simp only [clL, Bool.and_eq_true] at h
  exact clL_app (cells_cl h.1) (flat_cl h.2)
theorem cl_take {l : List AV} (h : clL l = true) (j : Nat) : clL (l.take j) = true := by
 induction l generalizing j with
 | nil => simp [clL]
 | cons x l ih =>
  simp only [clL, Bool.and_eq_true] at h
  cases j with
  | zero => rfl
  | succ j => simp only [List.take_succ_cons, clL, h.1, Bool.true_and]; exact ih h.2 j
theorem gr_cln {s : Nat} {L : List AV} (h : clL L = true) : ∀ j, Cln (grO s L j)
 | 0, x, hx => by cases hx
 | j + 1, x, hx => by
  cases hx
  exact ⟨_, _, rfl, flat_cl (cl_take h _)⟩
theorem gr_ren {p : Nat → Nat} {n b c : Nat} (hp : p b = c) (hb : b < n) : ∀ j, Ren p n (grV b j) (grV c j)
 | 0 => .cl rfl
 | j + 1 => by
  subst hp
  exact .sl hb
theorem gr_frz {P : Nat → Prop} {g : Heap} {b s : Nat} {L : List AV} (hs : allSize s L = true) (hc : clL L = true) (hP : P b) : ∀ n, n = L.length → g.get b = grO s L n → Frz P g (grV b n) (.fz (growK n) L)
 | 0, h, _ => by
  have : L = [] := List.length_eq_zero_iff.1 h.symm
  subst this
  exact .nils
 | n + 1, h, hg => by
  refine frz_open (b := b) (s := s) (wr := true) (es := s) (vs := flatCells L) hP ?_ rfl hs h hc
  rw [hg, grO, h, List.take_length]
theorem flat_size : ∀ {l : List AV} {s : Nat}, allSize s l = true → (flatCells l).length = l.length * s
 | [], s, _ => by simp [flatCells]
 | x :: l, s, h => by
  simp only [allSize, Bool.and_eq_true] at h
  have := Nat.eq_of_beq_eq_true h.1
  show (x.cells ++ flatCells l).length = _
  rw [List.length_append, flat_size h.2, List.length_cons, this, Nat.succ_mul]
  omega
theorem flat_app : ∀ (l m : List AV), flatCells (l ++ m) = flatCells l ++ flatCells m
 | [], m => rfl
 | x :: l, m => by
  show x.cells ++ flatCells (l ++ m) = (x.cells ++ flatCells l) ++ flatCells m
  rw [flat_app l m, List.append_assoc]
theorem size_take {l : List AV} {s : Nat} (h : allSize s l = true) (j : Nat) : allSize s (l.take j) = true := by
 induction l generalizing j with
 | nil => simp [allSize]
 | cons x l ih =>
  simp only [allSize, Bool.and_eq_true] at h
  cases j with
  | zero => rfl
  | succ j => simp only [List.take_succ_cons, allSize, h.1, Bool.true_and]; exact ih h.2 j
theorem app_lit0 {s bytes nx : Nat} {tr : Tr Blk} {b : Nat} {x : AV} {cs : List AV} (hs : srcV s ⟨nx, tr⟩ x = some (0, cs)) (hf : flatL cs = true) :
  eV (.append s bytes) [.sl b 0 0 0 false, x] ⟨nx, tr⟩ = some (.sl b 0 0 0 false, ⟨nx, tr⟩) := by
 simp only [eV, l2, hs]
 show cond (flatL cs) _ _ = _
 rw [hf, cond_true]
 rfl
theorem app_lit {s bytes nx n : Nat} {tr : Tr Blk} {b : Nat} {x : AV} {cs : List AV} {wr : Bool} {es : Nat} (hg : Heap.get ⟨nx, tr⟩ b = some (.cells [] wr es)) (hb : bytes ≤ 1048576) (hn : n ≤ 1048576) (hs : srcV s ⟨nx, tr⟩ x = some (n + 1, cs)) (hf : flatL cs = true) :
  eV (.append s bytes) [.sl b 0 0 0 false, x] ⟨nx, tr⟩ = some (.sl nx 0 (n + 1) (n + 1) true, ⟨nx + 1, Tr.set tr nx (.cells cs true s)⟩) := by
 have hl : Heap.loadN ⟨nx, tr⟩ b 0 (0 * s) = some [] := by
  rw [loadN_some hg (by simp)]
  simp
 have hm : (n + 1) * bytes ≤ 1048577 * 1048576 := Nat.mul_le_mul (by omega) hb
 have b2 : Nat.ble ((0 + (n + 1)) * bytes) 140737488355328 = true := Nat.ble_eq_true_of_le (by rw [Nat.zero_add]; omega)
 have b3 : Nat.ble (0 + (n + 1)) 9223372036854775807 = true := Nat.ble_eq_true_of_le (by omega)
 have b4 : Nat.beq (n + 1) 0 = false := rfl
 have b1 : Nat.ble (0 + (n + 1)) 0 = false := by
  cases hb : Nat.ble (0 + (n + 1)) 0 with
  | false => rfl
  | true => have := Nat.le_of_ble_eq_true hb; omega
 simp only [eV, l2, hs]
 show cond (flatL cs) _ _ = _
 rw [hf, cond_true, b4, Bool.false_and, cond_false, b1, cond_false, b2, b3, Bool.and_self, cond_true, hg, hl]
 simp only [cond_false, Nat.zero_add]
 rfl
theorem app_nils0 {s bytes nx : Nat} {tr : Tr Blk} {x : AV} {cs : List AV} (hs : srcV s ⟨nx, tr⟩ x = some (0, cs)) (hf : flatL cs = true) :
  eV (.append s bytes) [.nils, x] ⟨nx, tr⟩ = some (.nils, ⟨nx, tr⟩) := by
 simp only [eV, l2, hs]
 show cond (flatL cs) _ _ = _
 rw [hf, cond_true]
 rfl
theorem app_nilsN {s bytes nx n : Nat} {tr : Tr Blk} {x : AV} {cs : List AV} (hb : bytes ≤ 1048576) (hn : n ≤ 1048576) (hs : srcV s ⟨nx, tr⟩ x = some (n + 1, cs)) (hf : flatL cs = true) :
  eV (.append s bytes) [.nils, x] ⟨nx, tr⟩ = some (.sl nx 0 (n + 1) (n + 1) true, ⟨nx + 1, Tr.set tr nx (.cells cs true s)⟩) := by
 have hm : (n + 1) * bytes ≤ 1048577 * 1048576 := Nat.mul_le_mul (by omega) hb
 have b2 : Nat.ble ((n + 1) * bytes) 140737488355328 = true := Nat.ble_eq_true_of_le (by omega)
 have b3 : Nat.ble (n + 1) 9223372036854775807 = true := Nat.ble_eq_true_of_le (by omega)
 have b4 : Nat.beq (n + 1) 0 = false := rfl
 simp only [eV, l2, hs]
 show cond (flatL cs) _ _ = _
 rw [hf, cond_true, b4, cond_false, b2, b3, Bool.and_self, cond_true]
 rfl
theorem src_fz {s k : Nat} {l : List AV} {h : Heap} (hs : allSize s l = true) : srcV s h (.fz k l) = some (l.length, flatCells l) := by
 simp only [srcV, hs, cond_true]
theorem vd_frzH {fs : Nat → Option AFunc} {ms : Nat → String → Option Nat} {f : Nat} {args args' : List AV} {h H : Heap} {Q : AV → Heap → Prop} (bs : List Nat) (hH : delAll bs h = H) (hf : FrzL (· ∈ bs) h args args') (hw : VD fs ms f args' H Q) : VD fs ms f args h Q :=
 vd_frz bs hf (hH ▸ hw)
end Ads
end Go.Proofs.Ytlndlbngfgaoeaa
