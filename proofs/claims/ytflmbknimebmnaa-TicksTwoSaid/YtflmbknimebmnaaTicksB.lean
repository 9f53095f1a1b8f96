/-
  The contracts of Add, Sub, Div, of the program and of the document's answer.
-/
import Derived.Test.YtflmbknimebmnaaTicksA
set_option maxRecDepth 100000
namespace Go.Proofs.Ytflmbknimebmnaa
open Go Ads
namespace Ir

def pr (p : Int × Int) : AV := .tup [.int .i64 p.1, .int .i64 p.2]

theorem closed2 (a b : Int) : allD (fun _ => False) [AV.int .i64 a, AV.int .i64 b] := by simp [allD, AV.inD]
theorem closed_pr (p : Int × Int) : (pr p).inD (fun _ => False) := by simp [pr, allD, AV.inD]

/-- A call with numbers alone leaves the heap as it is. -/
theorem calld_pr {f : Nat} {args : List AV} {p : Int × Int} (ha : allD (fun _ => False) args) (hc : Calld fs ms f args ⟨0, .nil⟩ fun v _ => v = pr p) (h : Heap) :
    BS fs ms (.call f args h) (.val (pr p) h) := by
  obtain ⟨v, h1, hb, rfl⟩ := hc
  exact .fresh hb ha (closed_pr p)

/-- A call that is known. -/
theorem calld_of {f : Nat} {args : List AV} {h h1 : Heap} {v : AV} {Q : AV → Heap → Prop} (hb : BS fs ms (.call f args h) (.val v h1)) (hq : Q v h1) : Calld fs ms f args h Q := ⟨v, h1, hb, hq⟩

def toldS (n e : Int) : Int × Int := if e = 0 then (if n > 1099511627776 then (0, 10) else (n, 0)) else (0, e)

theorem told_c (n e : Int) (h : Heap) : BS fs ms (.call 29 [.int .i64 n, .int .i64 e] h) (.val (pr (toldS n e)) h) := by
  refine calld_pr (closed2 _ _) ?_ h
  refine calld (af := C29) rfl (by simp [C29]) ?_
  generalize hQ : (fun (v : AV) (_ : Heap) => v = pr (toldS n e)) = Q
  conv => whnf
  iterate 6 (all_goals (first | (refine br (fun hc => ?_) (fun hc => ?_) <;> (try rw [hc]) <;> (conv => whnf)) | skip))
  all_goals (subst hQ; simp at *; simp only [pr, toldS])
  all_goals (repeat' split)
  all_goals (first | rfl | omega)

/-- tick of two numbers that were laid into a row. -/
theorem tick2_c (a b : Int) (h : Heap) (n : Nat) (hn : h.get n = some (.cells [.int .i64 a, .int .i64 b] true 0)) (Q : AV → Heap → Prop) (hq : Q (.bool (isTick a && isTick b)) h) :
    Calld fs ms 28 [.sl n 0 2 2 false] h Q := by
  refine (tick_c [a, b] n 0 2 false h (by simp) ?_).mono ?_
  · intro i hi
    simp only [Heap.load1, Heap.row, hn]
    match i, hi with
    | 0, _ => rfl
    | 1, _ => rfl
  · rintro v h' ⟨rfl, rfl⟩
    simpa using hq

theorem isTick_iff (n : Int) : isTick n = true ↔ 0 ≤ n ∧ n ≤ 1099511627776 := by simp [isTick]

theorem both_no {a b : Bool} (h : a = false ∨ b = false) : (a && b) = false := by cases a <;> simp_all

def addS (a b : Int) : Int × Int := if isTick a && isTick b then (if a + b > 1099511627776 then (0, 10) else (a + b, 0)) else (0, 2)

theorem add_c (a b : Int) (h : Heap) : BS fs ms (.call 9 [.int .i64 a, .int .i64 b] h) (.val (pr (addS a b)) h) := by
  refine calld_pr (closed2 _ _) ?_ h
  refine calld (af := C9) rfl (by simp [C9]) ?_
  generalize hQ : (fun (v : AV) (_ : Heap) => v = pr (addS a b)) = Q
  conv => whnf
  refine tick2_c a b _ _ rfl _ ?_
  conv => whnf
  refine br (fun hc => ?_) (fun hc => ?_) <;> (conv => whnf)
  · subst hQ
    simp only [Bool.not_eq_true'] at hc
    simp [addS, hc, pr]
  · refine calld_of (told_c _ _ _) ?_
    conv => whnf
    subst hQ
    simp only [Bool.not_eq_false'] at hc
    have h1 := hc
    simp only [Bool.and_eq_true, isTick_iff] at h1
    rw [IntWalk.i64_in _ (by omega)]
    simp [addS, hc, pr, toldS]

def subS (a b : Int) : Int × Int := if isTick a && isTick b then (if b > a then (0, 2) else (a - b, 0)) else (0, 2)

theorem sub_c (a b : Int) (h : Heap) : BS fs ms (.call 12 [.int .i64 a, .int .i64 b] h) (.val (pr (subS a b)) h) := by
  refine calld_pr (closed2 _ _) ?_ h
  refine calld (af := C12) rfl (by simp [C12]) ?_
  generalize hQ : (fun (v : AV) (_ : Heap) => v = pr (subS a b)) = Q
  conv => whnf
  refine tick2_c a b _ _ rfl _ ?_
  conv => whnf
  iterate 6 (all_goals (first | (refine br (fun hc => ?_) (fun hc => ?_) <;> (try rw [hc]) <;> (conv => whnf)) | skip))
  all_goals (subst hQ; simp at *)
  · simp only [subS, pr, both_no hc]
    rfl
  · rename_i h0
    simp [subS, pr, h0, hc]
  · rename_i h0
    have h1 := (isTick_iff a).1 h0.1
    have h2 := (isTick_iff b).1 h0.2
    rw [IntWalk.i64_in _ (by omega)]
    simp [subS, pr, h0, Int.not_lt.2 hc]

/-- The document's tick. -/
theorem rtick_c (n : Int) (h : Heap) : BS fs ms (.call 30 [.int .i64 n] h) (.val (.bool (isTick n)) h) := by
  have : Calld fs ms 30 [.int .i64 n] ⟨0, .nil⟩ fun v _ => v = .bool (isTick n) := by
    refine calld (af := C30) rfl (by simp [C30]) ?_
    generalize hQ : (fun (v : AV) (_ : Heap) => v = .bool (isTick n)) = Q
    conv => whnf
    iterate 6 (all_goals (first | (refine br (fun hc => ?_) (fun hc => ?_) <;> (try rw [hc]) <;> (conv => whnf)) | skip))
    all_goals (subst hQ; simp [isTick] at *)
    all_goals (first | omega | (simp [*]; done) | skip)
  obtain ⟨v, h1, hb, rfl⟩ := this
  exact .fresh hb (by simp [allD, AV.inD]) (by simp [AV.inD])

theorem radd_c (a b : Int) (h : Heap) : BS fs ms (.call 10 [.int .i64 a, .int .i64 b] h) (.val (pr (addS a b)) h) := by
  refine calld_pr (closed2 _ _) ?_ h
  refine calld (af := C10) rfl (by simp [C10]) ?_
  generalize hQ : (fun (v : AV) (_ : Heap) => v = pr (addS a b)) = Q
  conv => whnf
  iterate 9 (all_goals (first | (refine br (fun hc => ?_) (fun hc => ?_) <;> (try rw [hc]) <;> (conv => whnf)) | (refine calld_of (rtick_c _ _) ?_ <;> (conv => whnf)) | skip))
  all_goals (subst hQ; simp at *)
  · simp [addS, pr, hc]
  · rename_i h0
    simp [addS, pr, hc, h0]
  · rename_i h0 h1
    have g1 := (isTick_iff a).1 h0
    have g2 := (isTick_iff b).1 h1
    rw [IntWalk.i64_in _ (by omega)] at hc
    simp [addS, pr, h0, h1, hc]
  · rename_i h0 h1
    have g1 := (isTick_iff a).1 h0
    have g2 := (isTick_iff b).1 h1
    rw [IntWalk.i64_in _ (by omega)] at hc ⊢
    simp [addS, pr, h0, h1, Int.not_lt.2 hc]

theorem rsub_c (a b : Int) (h : Heap) : BS fs ms (.call 13 [.int .i64 a, .int .i64 b] h) (.val (pr (subS a b)) h) := by
  refine calld_pr (closed2 _ _) ?_ h
  refine calld (af := C13) rfl (by simp [C13]) ?_
  generalize hQ : (fun (v : AV) (_ : Heap) => v = pr (subS a b)) = Q
  conv => whnf
  iterate 9 (all_goals (first | (refine br (fun hc => ?_) (fun hc => ?_) <;> (try rw [hc]) <;> (conv => whnf)) | (refine calld_of (rtick_c _ _) ?_ <;> (conv => whnf)) | skip))
  all_goals (subst hQ; simp at *)
  · simp [subS, pr, hc]
  · rename_i h0
    simp [subS, pr, hc, h0]
  · rename_i h0 h1
    simp [subS, pr, h0, h1, hc]
  · rename_i h0 h1
    have g1 := (isTick_iff a).1 h0
    have g2 := (isTick_iff b).1 h1
    rw [IntWalk.i64_in _ (by omega)]
    simp [subS, pr, h0, h1, Int.not_lt.2 hc]

theorem quo_val {k : IntKind} (a b : Int) (hb : b ≠ 0) : pIF (.bin .quo) [.int k a, .int k b] = some (.int k (k.wrap (a.tdiv b))) := by
  simp [pIF, l2, binF, dInt, isShift, binInt, hb]
theorem rem_val {k : IntKind} (a b : Int) (hb : b ≠ 0) : pIF (.bin .rem) [.int k a, .int k b] = some (.int k (a.tmod b)) := by
  simp [pIF, l2, binF, dInt, isShift, binInt, hb]

theorem tdiv_bounds {a b : Int} (ha : 0 ≤ a) (hb : 0 ≤ b) : 0 ≤ a.tdiv b ∧ a.tdiv b ≤ a := by
  rw [Int.tdiv_eq_ediv_of_nonneg ha]
  exact ⟨Int.ediv_nonneg ha hb, Int.ediv_le_self _ ha⟩

def divS (a b : Int) : Int × Int := if isTick a && isTick b then (if b = 0 then (0, 2) else (a.tdiv b, 0)) else (0, 2)

theorem div_c (a b : Int) (h : Heap) : BS fs ms (.call 16 [.int .i64 a, .int .i64 b] h) (.val (pr (divS a b)) h) := by
  refine calld_pr (closed2 _ _) ?_ h
  refine calld (af := C16) rfl (by simp [C16]) ?_
  generalize hQ : (fun (v : AV) (_ : Heap) => v = pr (divS a b)) = Q
  conv => whnf
  refine tick2_c a b _ _ rfl _ ?_
  conv => whnf
  iterate 6 (all_goals (first | (refine br (fun hc => ?_) (fun hc => ?_) <;> (try rw [hc]) <;> (conv => whnf)) | skip))
  · subst hQ
    simp at *
    simp only [divS, pr, both_no hc]
    rfl
  · subst hQ
    simp at *
    simp [divS, pr, hc]
  · rename_i h0
    simp at h0 hc
    refine ⟨_, quo_val a b hc, ?_⟩
    conv => whnf
    subst hQ
    have g1 := (isTick_iff a).1 h0.1
    have g2 := (isTick_iff b).1 h0.2
    have g3 := tdiv_bounds g1.1 g2.1
    rw [IntWalk.i64_in _ (by omega)]
    simp [divS, pr, h0, hc]

theorem rdiv_c (a b : Int) (h : Heap) : BS fs ms (.call 17 [.int .i64 a, .int .i64 b] h) (.val (pr (divS a b)) h) := by
  refine calld_pr (closed2 _ _) ?_ h
  refine calld (af := C17) rfl (by simp [C17]) ?_
  generalize hQ : (fun (v : AV) (_ : Heap) => v = pr (divS a b)) = Q
  conv => whnf
  iterate 9 (all_goals (first | (refine br (fun hc => ?_) (fun hc => ?_) <;> (try rw [hc]) <;> (conv => whnf)) | (refine calld_of (rtick_c _ _) ?_ <;> (conv => whnf)) | skip))
  · subst hQ; simp at *; simp [divS, pr, hc]
  · rename_i h0; subst hQ; simp at *; simp [divS, pr, hc, h0]
  · rename_i h0 h1; subst hQ; simp at *; simp [divS, pr, hc]
  · rename_i h0 h1
    simp at h0 h1 hc
    refine ⟨_, quo_val a b hc, ?_⟩
    conv => whnf
    subst hQ
    have g1 := (isTick_iff a).1 h0
    have g2 := (isTick_iff b).1 h1
    have g3 := tdiv_bounds g1.1 g2.1
    rw [IntWalk.i64_in _ (by omega)]
    simp [divS, pr, h0, h1, hc]
end Ir
end Go.Proofs.Ytflmbknimebmnaa
