/-
  Rows that grow while another one grows: three blocks, of which some may be missing.
-/
import Derived.Test.YtepdklcpagielaaVsRows
import Derived.Test.YtepdklcpagielaaVsTop
set_option maxRecDepth 100000
set_option linter.unusedSimpArgs false
set_option linter.unusedVariables false
namespace Go.Proofs.Ytepdklcpagielaa
open Go Ads
namespace Ads

section
variable {fs : Nat → Option AFunc} {ms : Nat → String → Option Nat} {rd : Bool}
theorem vc_seqV {B : Nat} {a b : AC} {e : Env} {h : Heap} {Q : AX → Env → Heap → Prop}
  (hw : VC fs ms B rd a e h fun x e1 h1 => match x with | .normal => VC fs ms B rd b e1 h1 Q | x => Q x e1 h1) : VC fs ms B rd (.seq a b) e h Q := by
 obtain ⟨x, e1, h1, hb, hk⟩ := hw
 cases x with
 | normal =>
  obtain ⟨x2, e2, h2, hb2, hk2⟩ := hk
  exact ⟨_, _, _, .seqN hb hb2, hk2⟩
 | exit i => exact ⟨_, _, _, .seqX hb rfl, hk⟩
 | ret => exact ⟨_, _, _, .seqX hb rfl, hk⟩
 | panic v => exact ⟨_, _, _, .seqX hb rfl, hk⟩
theorem vc_block {B id : Nat} {c : AC} {e : Env} {h : Heap} {Q : AX → Env → Heap → Prop}
  (hw : VC fs ms B rd c e h fun x e1 h1 => match x with | .exit i => (if i = id then Q .normal e1 h1 else Q (.exit i) e1 h1) | x => Q x e1 h1) : VC fs ms B rd (.block id c) e h Q := by
 obtain ⟨x, e1, h1, hb, hk⟩ := hw
 cases x with
 | normal => exact ⟨_, _, _, .blockN hb (by intro i hi; cases hi), hk⟩
 | exit i =>
  by_cases hi : i = id
  ·subst hi
   simp only [if_true] at hk
   exact ⟨_, _, _, .blockX hb, hk⟩
  ·simp only [hi, if_false] at hk
   exact ⟨_, _, _, .blockN hb (by intro i2 hi2; cases hi2; exact hi), hk⟩
 | ret => exact ⟨_, _, _, .blockN hb (by intro i hi; cases hi), hk⟩
 | panic v => exact ⟨_, _, _, .blockN hb (by intro i hi; cases hi), hk⟩
end

theorem flat_size : ∀ {l : List AV} {s : Nat}, allSize s l = true → (flatCells l).length = l.length * s
 | [], s, _ => by simp [flatCells]
 | x :: l, s, h => by
  simp only [allSize, Bool.and_eq_true] at h
  have := Nat.eq_of_beq_eq_true h.1
  show (x.cells ++ flatCells l).length = _
  rw [List.length_append, flat_size h.2, List.length_cons, this, Nat.succ_mul]
  omega
theorem flat_app : ∀ (l m : List AV), flatCells (l ++ m) = flatCells l ++ flatCells m
 | [], m => rfl
 | x :: l, m => by
  show x.cells ++ flatCells (l ++ m) = (x.cells ++ flatCells l) ++ flatCells m
  rw [flat_app l m, List.append_assoc]
theorem app_lit {s bytes nx n : Nat} {tr : Tr Blk} {b : Nat} {x : AV} {cs : List AV} {wr : Bool} {es : Nat} (hg : Heap.get ⟨nx, tr⟩ b = some (.cells [] wr es)) (hb : bytes ≤ 1048576) (hn : n ≤ 1048576) (hs : srcV s ⟨nx, tr⟩ x = some (n + 1, cs)) (hf : flatL cs = true) :
  eV (.append s bytes) [.sl b 0 0 0 false, x] ⟨nx, tr⟩ = some (.sl nx 0 (n + 1) (n + 1) true, ⟨nx + 1, Tr.set tr nx (.cells cs true s)⟩) := by
 have hl : Heap.loadN ⟨nx, tr⟩ b 0 (0 * s) = some [] := by
  rw [loadN_some hg (by simp)]
  simp
 have hm : (n + 1) * bytes ≤ 1048577 * 1048576 := Nat.mul_le_mul (by omega) hb
 have b2 : Nat.ble ((0 + (n + 1)) * bytes) 140737488355328 = true := Nat.ble_eq_true_of_le (by rw [Nat.zero_add]; omega)
 have b3 : Nat.ble (0 + (n + 1)) 9223372036854775807 = true := Nat.ble_eq_true_of_le (by omega)
 have b4 : Nat.beq (n + 1) 0 = false := rfl
 have b1 : Nat.ble (0 + (n + 1)) 0 = false := by
  cases hb : Nat.ble (0 + (n + 1)) 0 with
  | false => rfl
  | true => have := Nat.le_of_ble_eq_true hb; omega
 simp only [eV, l2, hs]
 show cond (flatL cs) _ _ = _
 rw [hf, cond_true, b4, Bool.false_and, cond_false, b1, cond_false, b2, b3, Bool.and_self, cond_true, hg, hl]
 simp only [cond_false, Nat.zero_add]
 rfl
theorem src_fz {s k : Nat} {l : List AV} {h : Heap} (hs : allSize s l = true) : srcV s h (.fz k l) = some (l.length, flatCells l) := by
 simp only [srcV, hs, cond_true]
end Ads
end Go.Proofs.Ytepdklcpagielaa
