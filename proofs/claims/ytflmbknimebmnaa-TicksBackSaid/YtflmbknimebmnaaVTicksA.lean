/-
  The contracts of layer 1, over rows as values: tick, told, Add, Sub, Div, Gcd, of the program and of the document's answer.
-/
import Derived.Test.YtflmbknimebmnaaIrLink
import Derived.Test.YtflmbknimebmnaaVsLoop
set_option maxRecDepth 100000
set_option linter.unusedSimpArgs false
set_option linter.unusedVariables false
namespace Go.Proofs.Ytflmbknimebmnaa
open Go Ads
namespace Ir

def isTick (n : Int) : Bool := decide (0 ≤ n) && decide (n ≤ 1099511627776)
theorem isTick_iff (n : Int) : isTick n = true ↔ 0 ≤ n ∧ n ≤ 1099511627776 := by simp [isTick]
theorem isTick_no {n : Int} (h : n < 0 ∨ n > 1099511627776) : isTick n = false := by
  rw [Bool.eq_false_iff, Ne, isTick_iff]
  omega
def pr (p : Int × Int) : AV := .tup [.int .i64 p.1, .int .i64 p.2]
theorem both_no {a b : Bool} (h : a = false ∨ b = false) : (a && b) = false := by cases a <;> simp_all

theorem tick_c (k : Nat) (l : List Int) (hl : l.length < 2 ^ 62) : PC fs ms f_ticks_tick [.fz k (ints l)] (.bool (l.all isTick)) := by
  refine pc_of (by simp [clL, AV.cl, cl_ints]) rfl ?_
  refine vd_start (af := C_ticks_tick) false rfl (Nat.le_of_ble_eq_true rfl) ?_
  generalize hQ : (fun (u : AV) (_ : Heap) => u = .bool (l.all isTick)) = Q
  conv => whnf
  refine vc_to0 5 [(7, .int .i64 (0 : Nat)), (5, .fz k (ints l)), (6, .int .i64 (ints l).length)] (by repeat' (first | exact trivial | refine renAt_sl rfl (by omega) ?_ | refine renAt_ptr rfl (by omega) ?_ | refine renAt_yield rfl (by omega) ?_ | refine renAt_cl rfl (by first | rfl | simp [clL, AV.cl, cl_ints]) ?_ | refine renAt_cl (inc_slot (by omega)) rfl ?_)) ?_
  refine for_row 5 l.length (fun j => (l.take j).all isTick = true) (fun j => [(7, .int .i64 (j : Nat)), (5, .fz k (ints l)), (6, .int .i64 (ints l).length)]) ?_ ?_ rfl
  · intro j hj hi
    conv => whnf
    refine br (fun hc => ?_) (fun hc => ?_) <;> (try rw [hc]) <;> (conv => whnf)
    · refine ⟨_, idx_int hj, ?_⟩
      conv => whnf
      iterate 3 (all_goals (first | (refine br (fun hc => ?_) (fun hc => ?_) <;> (try rw [hc]) <;> (conv => whnf)) | skip))
      · subst hQ
        rw [all_no hj (isTick_no (.inl (by simpa using hc)))]
      · subst hQ
        rw [all_no hj (isTick_no (.inr (by simpa using hc)))]
      · rename_i hc0
        simp only [decide_eq_false_iff_not] at hc hc0
        exact ⟨all_next hj hi ((isTick_iff _).2 (by omega)), renAt_cl (inc_slot (by omega)) rfl (by repeat' (first | exact trivial | refine renAt_sl rfl (by omega) ?_ | refine renAt_ptr rfl (by omega) ?_ | refine renAt_yield rfl (by omega) ?_ | refine renAt_cl rfl (by first | rfl | simp [clL, AV.cl, cl_ints]) ?_ | refine renAt_cl (inc_slot (by omega)) rfl ?_))⟩
    · simp [len_ints] at hc; omega
  · intro hi
    conv => whnf
    refine br (fun hc => ?_) (fun hc => ?_) <;> (try rw [hc]) <;> (conv => whnf)
    · simp [len_ints] at hc
    · subst hQ
      rw [List.take_length] at hi
      rw [hi]

/-- Two numbers that were laid into a row. -/
theorem tick2_c {a b : Int} {h : Heap} {n : Nat} (hn : h.get n = some (.cells [.int .i64 a, .int .i64 b] true 0)) {Q : AV → Heap → Prop} (hq : Q (.bool (isTick a && isTick b)) h) :
    VD fs ms f_ticks_tick [.sl n 0 2 2 false] h Q := by
  have := tick_c 2 [a, b] (by simp)
  simp only [List.all_cons, List.all_nil, Bool.and_true] at this
  exact vd_view this rfl (.cons (.row (s := 1) trivial hn rfl rfl rfl (Nat.le_refl _) (Nat.le_refl _) (fun _ => rfl) (fun _ => rfl) rfl) .nil) hq
theorem tick1_c {a : Int} {h : Heap} {n : Nat} (hn : h.get n = some (.cells [.int .i64 a] true 0)) {Q : AV → Heap → Prop} (hq : Q (.bool (isTick a)) h) :
    VD fs ms f_ticks_tick [.sl n 0 1 1 false] h Q := by
  have := tick_c 2 [a] (by simp)
  simp only [List.all_cons, List.all_nil, Bool.and_true] at this
  exact vd_view this rfl (.cons (.row (s := 1) trivial hn rfl rfl rfl (Nat.le_refl _) (Nat.le_refl _) (fun _ => rfl) (fun _ => rfl) rfl) .nil) hq

def toldS (n e : Int) : Int × Int := if e = 0 then (if n > 1099511627776 then (0, 10) else (n, 0)) else (0, e)

theorem told_c (n e : Int) : PC fs ms f_ticks_told [.int .i64 n, .int .i64 e] (pr (toldS n e)) := by
  refine pc_of rfl rfl ?_
  refine vd_start (af := C_ticks_told) false rfl (Nat.le_of_ble_eq_true rfl) ?_
  generalize hQ : (fun (v : AV) (_ : Heap) => v = pr (toldS n e)) = Q
  conv => whnf
  iterate 6 (all_goals (first | (refine br (fun hc => ?_) (fun hc => ?_) <;> (try rw [hc]) <;> (conv => whnf)) | skip))
  all_goals (subst hQ; simp at *; simp only [pr, toldS])
  all_goals (repeat' split)
  all_goals (first | rfl | omega)

def addS (a b : Int) : Int × Int := if isTick a && isTick b then (if a + b > 1099511627776 then (0, 10) else (a + b, 0)) else (0, 2)

theorem add_c (a b : Int) : PC fs ms f_ticks_Add [.int .i64 a, .int .i64 b] (pr (addS a b)) := by
  refine pc_of rfl rfl ?_
  refine vd_start (af := C_ticks_Add) false rfl (Nat.le_of_ble_eq_true rfl) ?_
  generalize hQ : (fun (v : AV) (_ : Heap) => v = pr (addS a b)) = Q
  conv => whnf
  refine tick2_c rfl ?_
  conv => whnf
  refine br (fun hc => ?_) (fun hc => ?_) <;> (try rw [hc]) <;> (conv => whnf)
  · subst hQ
    simp only [Bool.not_eq_true'] at hc
    simp [addS, hc, pr]
  · refine vd_pure (told_c _ _) ?_
    conv => whnf
    subst hQ
    simp only [Bool.not_eq_false'] at hc
    have h1 := hc
    simp only [Bool.and_eq_true, isTick_iff] at h1
    rw [IntWalk.i64_in _ (by omega)]
    simp [addS, hc, pr, toldS]

def subS (a b : Int) : Int × Int := if isTick a && isTick b then (if b > a then (0, 2) else (a - b, 0)) else (0, 2)

theorem sub_c (a b : Int) : PC fs ms f_ticks_Sub [.int .i64 a, .int .i64 b] (pr (subS a b)) := by
  refine pc_of rfl rfl ?_
  refine vd_start (af := C_ticks_Sub) false rfl (Nat.le_of_ble_eq_true rfl) ?_
  generalize hQ : (fun (v : AV) (_ : Heap) => v = pr (subS a b)) = Q
  conv => whnf
  refine tick2_c rfl ?_
  conv => whnf
  iterate 6 (all_goals (first | (refine br (fun hc => ?_) (fun hc => ?_) <;> (try rw [hc]) <;> (conv => whnf)) | skip))
  all_goals (subst hQ; simp at *)
  · simp only [subS, pr, both_no hc]
    rfl
  · rename_i h0
    simp [subS, pr, h0, hc]
  · rename_i h0
    have h1 := (isTick_iff a).1 h0.1
    have h2 := (isTick_iff b).1 h0.2
    rw [IntWalk.i64_in _ (by omega)]
    simp [subS, pr, h0, Int.not_lt.2 hc]

/-- The document's tick. -/
theorem rtick_c (n : Int) : PC fs ms f_escapementref01_tick [.int .i64 n] (.bool (isTick n)) := by
  refine pc_of rfl rfl ?_
  refine vd_start (af := C_escapementref01_tick) false rfl (Nat.le_of_ble_eq_true rfl) ?_
  generalize hQ : (fun (v : AV) (_ : Heap) => v = .bool (isTick n)) = Q
  conv => whnf
  iterate 6 (all_goals (first | (refine br (fun hc => ?_) (fun hc => ?_) <;> (try rw [hc]) <;> (conv => whnf)) | skip))
  all_goals (subst hQ; simp [isTick] at *)
  all_goals (first | omega | (simp [*]; done) | skip)

theorem radd_c (a b : Int) : PC fs ms f_escapementref01_Add [.int .i64 a, .int .i64 b] (pr (addS a b)) := by
  refine pc_of rfl rfl ?_
  refine vd_start (af := C_escapementref01_Add) false rfl (Nat.le_of_ble_eq_true rfl) ?_
  generalize hQ : (fun (v : AV) (_ : Heap) => v = pr (addS a b)) = Q
  conv => whnf
  iterate 9 (all_goals (first | (refine br (fun hc => ?_) (fun hc => ?_) <;> (try rw [hc]) <;> (conv => whnf)) | (refine vd_pure (rtick_c _) ?_ <;> (conv => whnf)) | skip))
  all_goals (subst hQ; simp at *)
  · simp [addS, pr, hc]
  · rename_i h0
    simp [addS, pr, hc, h0]
  · rename_i h0 h1
    have g1 := (isTick_iff a).1 h0
    have g2 := (isTick_iff b).1 h1
    rw [IntWalk.i64_in _ (by omega)] at hc
    simp [addS, pr, h0, h1, hc]
  · rename_i h0 h1
    have g1 := (isTick_iff a).1 h0
    have g2 := (isTick_iff b).1 h1
    rw [IntWalk.i64_in _ (by omega)] at hc ⊢
    simp [addS, pr, h0, h1, Int.not_lt.2 hc]

theorem rsub_c (a b : Int) : PC fs ms f_escapementref01_Sub [.int .i64 a, .int .i64 b] (pr (subS a b)) := by
  refine pc_of rfl rfl ?_
  refine vd_start (af := C_escapementref01_Sub) false rfl (Nat.le_of_ble_eq_true rfl) ?_
  generalize hQ : (fun (v : AV) (_ : Heap) => v = pr (subS a b)) = Q
  conv => whnf
  iterate 9 (all_goals (first | (refine br (fun hc => ?_) (fun hc => ?_) <;> (try rw [hc]) <;> (conv => whnf)) | (refine vd_pure (rtick_c _) ?_ <;> (conv => whnf)) | skip))
  all_goals (subst hQ; simp at *)
  · simp [subS, pr, hc]
  · rename_i h0
    simp [subS, pr, hc, h0]
  · rename_i h0 h1
    simp [subS, pr, h0, h1, hc]
  · rename_i h0 h1
    have g1 := (isTick_iff a).1 h0
    have g2 := (isTick_iff b).1 h1
    rw [IntWalk.i64_in _ (by omega)]
    simp [subS, pr, h0, h1, Int.not_lt.2 hc]

theorem quo_val {k : IntKind} (a b : Int) (hb : b ≠ 0) : pV (.bin .quo) [.int k a, .int k b] = some (.int k (k.wrap (a.tdiv b))) := by
  simp [pV, pIF, l2, binF, dInt, isShift, binInt, hb]
theorem rem_val {k : IntKind} (a b : Int) (hb : b ≠ 0) : pV (.bin .rem) [.int k a, .int k b] = some (.int k (a.tmod b)) := by
  simp [pV, pIF, l2, binF, dInt, isShift, binInt, hb]

theorem tdiv_bounds {a b : Int} (ha : 0 ≤ a) (hb : 0 ≤ b) : 0 ≤ a.tdiv b ∧ a.tdiv b ≤ a := by
  rw [Int.tdiv_eq_ediv_of_nonneg ha]
  exact ⟨Int.ediv_nonneg ha hb, Int.ediv_le_self _ ha⟩

def divS (a b : Int) : Int × Int := if isTick a && isTick b then (if b = 0 then (0, 2) else (a.tdiv b, 0)) else (0, 2)

theorem div_c (a b : Int) : PC fs ms f_ticks_Div [.int .i64 a, .int .i64 b] (pr (divS a b)) := by
  refine pc_of rfl rfl ?_
  refine vd_start (af := C_ticks_Div) false rfl (Nat.le_of_ble_eq_true rfl) ?_
  generalize hQ : (fun (v : AV) (_ : Heap) => v = pr (divS a b)) = Q
  conv => whnf
  refine tick2_c rfl ?_
  conv => whnf
  iterate 6 (all_goals (first | (refine br (fun hc => ?_) (fun hc => ?_) <;> (try rw [hc]) <;> (conv => whnf)) | skip))
  · subst hQ
    simp at *
    simp only [divS, pr, both_no hc]
    rfl
  · subst hQ
    simp at *
    simp [divS, pr, hc]
  · rename_i h0
    simp at h0 hc
    refine ⟨_, quo_val a b hc, ?_⟩
    conv => whnf
    subst hQ
    have g1 := (isTick_iff a).1 h0.1
    have g2 := (isTick_iff b).1 h0.2
    have g3 := tdiv_bounds g1.1 g2.1
    rw [IntWalk.i64_in _ (by omega)]
    simp [divS, pr, h0, hc]

theorem rdiv_c (a b : Int) : PC fs ms f_escapementref01_Div [.int .i64 a, .int .i64 b] (pr (divS a b)) := by
  refine pc_of rfl rfl ?_
  refine vd_start (af := C_escapementref01_Div) false rfl (Nat.le_of_ble_eq_true rfl) ?_
  generalize hQ : (fun (v : AV) (_ : Heap) => v = pr (divS a b)) = Q
  conv => whnf
  iterate 9 (all_goals (first | (refine br (fun hc => ?_) (fun hc => ?_) <;> (try rw [hc]) <;> (conv => whnf)) | (refine vd_pure (rtick_c _) ?_ <;> (conv => whnf)) | skip))
  · subst hQ; simp at *; simp [divS, pr, hc]
  · rename_i h0; subst hQ; simp at *; simp [divS, pr, hc, h0]
  · rename_i h0 h1; subst hQ; simp at *; simp [divS, pr, hc]
  · rename_i h0 h1
    simp at h0 h1 hc
    refine ⟨_, quo_val a b hc, ?_⟩
    conv => whnf
    subst hQ
    have g1 := (isTick_iff a).1 h0
    have g2 := (isTick_iff b).1 h1
    have g3 := tdiv_bounds g1.1 g2.1
    rw [IntWalk.i64_in _ (by omega)]
    simp [divS, pr, h0, h1, hc]

theorem gcd_loop (Q : AX → Env → Heap → Prop) : ∀ (n m : Nat), (∀ g, Q (.exit 0) (sk 5 (kn [(0, .int .i64 (Nat.gcd m n : Nat))] g)) (hk 0 [])) →
    VC fs ms 0 false (.loop L_ticks_Gcd_0) (ek 5 [(0, .int .i64 (m : Nat)), (1, .int .i64 (n : Nat))]) (hk 0 []) Q := by
  intro n
  induction n using Nat.strongRecOn with
  | _ n ih =>
    intro m hq
    refine vc_loop (z := false) ?_
    conv => whnf
    refine br (fun hc => ?_) (fun hc => ?_) <;> (try rw [hc]) <;> (conv => whnf)
    · have hn : (n : Int) ≠ 0 := by simpa using hc
      refine ⟨_, rem_val _ _ hn, ?_⟩
      conv => whnf
      refine vc_to0 5 [(0, .int .i64 (n : Nat)), (1, .int .i64 (m % n : Nat))] (renAt_cl rfl rfl (renAt_cl (by show some (AV.int .i64 ((m : Int).tmod n)) = _; rw [Int.ofNat_tmod]) rfl trivial)) ?_
      refine ih (m % n) (Nat.mod_lt _ (by omega)) n ?_
      have : Nat.gcd n (m % n) = Nat.gcd m n := by rw [Nat.gcd_comm m n, Nat.gcd_rec n m, Nat.gcd_comm]
      rw [this]
      exact hq
    · have hn : n = 0 := by simp at hc; omega
      subst hn
      refine to_kn (P := fun e => Q (.exit 0) e (hk 0 [])) 5 [(0, .int .i64 (Nat.gcd m 0 : Nat))] rfl ⟨?_, trivial⟩ hq
      show some (AV.int .i64 (m : Int)) = _
      rw [Nat.gcd_zero_right]

def gcdS (a b : Int) : Int × Int := if isTick a && isTick b then (Nat.gcd a.toNat b.toNat, 0) else (0, 2)

theorem gcd_c (a b : Int) : PC fs ms f_ticks_Gcd [.int .i64 a, .int .i64 b] (pr (gcdS a b)) := by
  refine pc_of rfl rfl ?_
  refine vd_start (af := C_ticks_Gcd) false rfl (Nat.le_of_ble_eq_true rfl) ?_
  generalize hQ : (fun (v : AV) (_ : Heap) => v = pr (gcdS a b)) = Q
  conv => whnf
  refine tick2_c rfl ?_
  conv => whnf
  refine br (fun hc => ?_) (fun hc => ?_) <;> (try rw [hc]) <;> (conv => whnf)
  · subst hQ
    simp at *
    simp only [gcdS, pr, both_no hc]
    rfl
  · simp at hc
    have g1 := (isTick_iff a).1 hc.1
    have g2 := (isTick_iff b).1 hc.2
    obtain ⟨m, rfl⟩ := Int.eq_ofNat_of_zero_le g1.1
    obtain ⟨n, rfl⟩ := Int.eq_ofNat_of_zero_le g2.1
    refine vc_to0 5 [(0, .int .i64 (m : Nat)), (1, .int .i64 (n : Nat))] (by repeat' (first | exact trivial | refine renAt_sl rfl (by omega) ?_ | refine renAt_ptr rfl (by omega) ?_ | refine renAt_yield rfl (by omega) ?_ | refine renAt_cl rfl (by first | rfl | simp [clL, AV.cl, cl_ints]) ?_ | refine renAt_cl (inc_slot (by omega)) rfl ?_)) ?_
    refine gcd_loop _ n m ?_
    intro g
    conv => whnf
    subst hQ
    simp [gcdS, pr, hc]

theorem rgcd_loop (Q : AX → Env → Heap → Prop) : ∀ (n m : Nat), (∀ g, Q (.exit 0) (sk 5 (kn [(0, .int .i64 (Nat.gcd m n : Nat))] g)) (hk 0 [])) →
    VC fs ms 0 false (.loop L_escapementref01_Gcd_0) (ek 5 [(0, .int .i64 (m : Nat)), (1, .int .i64 (n : Nat))]) (hk 0 []) Q := by
  intro n
  induction n using Nat.strongRecOn with
  | _ n ih =>
    intro m hq
    refine vc_loop (z := false) ?_
    conv => whnf
    refine br (fun hc => ?_) (fun hc => ?_) <;> (try rw [hc]) <;> (conv => whnf)
    · have hn : (n : Int) ≠ 0 := by simp at hc; omega
      refine ⟨_, rem_val _ _ hn, ?_⟩
      conv => whnf
      refine vc_to0 5 [(0, .int .i64 (n : Nat)), (1, .int .i64 (m % n : Nat))] (renAt_cl rfl rfl (renAt_cl (by show some (AV.int .i64 ((m : Int).tmod n)) = _; rw [Int.ofNat_tmod]) rfl trivial)) ?_
      refine ih (m % n) (Nat.mod_lt _ (by omega)) n ?_
      have : Nat.gcd n (m % n) = Nat.gcd m n := by rw [Nat.gcd_comm m n, Nat.gcd_rec n m, Nat.gcd_comm]
      rw [this]
      exact hq
    · have hn : n = 0 := by simp at hc; omega
      subst hn
      refine to_kn (P := fun e => Q (.exit 0) e (hk 0 [])) 5 [(0, .int .i64 (Nat.gcd m 0 : Nat))] rfl ⟨?_, trivial⟩ hq
      show some (AV.int .i64 (m : Int)) = _
      rw [Nat.gcd_zero_right]

theorem rgcd_c (a b : Int) : PC fs ms f_escapementref01_Gcd [.int .i64 a, .int .i64 b] (pr (gcdS a b)) := by
  refine pc_of rfl rfl ?_
  refine vd_start (af := C_escapementref01_Gcd) false rfl (Nat.le_of_ble_eq_true rfl) ?_
  generalize hQ : (fun (v : AV) (_ : Heap) => v = pr (gcdS a b)) = Q
  conv => whnf
  iterate 9 (all_goals (first | (refine br (fun hc => ?_) (fun hc => ?_) <;> (try rw [hc]) <;> (conv => whnf)) | (refine vd_pure (rtick_c _) ?_ <;> (conv => whnf)) | skip))
  · subst hQ; simp at *; simp [gcdS, pr, hc]
  · rename_i h0; subst hQ; simp at *; simp [gcdS, pr, hc, h0]
  · rename_i h0
    simp at h0 hc
    have g1 := (isTick_iff a).1 h0
    have g2 := (isTick_iff b).1 hc
    obtain ⟨m, rfl⟩ := Int.eq_ofNat_of_zero_le g1.1
    obtain ⟨n, rfl⟩ := Int.eq_ofNat_of_zero_le g2.1
    refine vc_to0 5 [(0, .int .i64 (m : Nat)), (1, .int .i64 (n : Nat))] (by repeat' (first | exact trivial | refine renAt_sl rfl (by omega) ?_ | refine renAt_ptr rfl (by omega) ?_ | refine renAt_yield rfl (by omega) ?_ | refine renAt_cl rfl (by first | rfl | simp [clL, AV.cl, cl_ints]) ?_ | refine renAt_cl (inc_slot (by omega)) rfl ?_)) ?_
    refine rgcd_loop _ n m ?_
    intro g
    conv => whnf
    subst hQ
    simp [gcdS, pr, h0, hc]

def mulS (a b : Int) : Int × Int := if isTick a && isTick b then (if a * b > 1099511627776 then (0, 10) else (a * b, 0)) else (0, 2)

theorem rmul_c (a b : Int) : PC fs ms f_escapementref01_Mul [.int .i64 a, .int .i64 b] (pr (mulS a b)) := by
  refine pc_of rfl rfl ?_
  refine vd_start (af := C_escapementref01_Mul) false rfl (Nat.le_of_ble_eq_true rfl) ?_
  generalize hQ : (fun (v : AV) (_ : Heap) => v = pr (mulS a b)) = Q
  conv => whnf
  iterate 9 (all_goals (first | (refine br (fun hc => ?_) (fun hc => ?_) <;> (try rw [hc]) <;> (conv => whnf)) | (refine vd_pure (rtick_c _) ?_ <;> (conv => whnf)) | skip))
  · subst hQ; simp at *; simp [mulS, pr, hc]
  · rename_i h0; subst hQ; simp at *; simp [mulS, pr, hc, h0]
  · rename_i h0 h1
    simp at h0 h1 hc
    have g1 := (isTick_iff a).1 h0
    have g2 := (isTick_iff b).1 h1
    have hd : (1099511627776 : Int).tdiv a = 1099511627776 / a := Int.tdiv_eq_ediv_of_nonneg (by omega)
    have hb0 : 0 ≤ (1099511627776 : Int) / a := Int.ediv_nonneg (by omega) (by omega)
    have hb1 : (1099511627776 : Int) / a ≤ 1099511627776 := Int.ediv_le_self _ (by omega)
    have hlt : (1099511627776 : Int) / a < b ↔ 1099511627776 < a * b := by rw [Int.ediv_lt_iff_lt_mul hc, Int.mul_comm]
    refine ⟨_, quo_val _ a (by omega), ?_⟩
    rw [hd, IntWalk.i64_in _ (by omega)]
    conv => whnf
    refine br (fun hc => ?_) (fun hc => ?_) <;> (try rw [hc]) <;> (conv => whnf)
    · subst hQ
      have hc2 : 1099511627776 < a * b := by simpa [hlt] using hc
      simp [mulS, pr, h0, h1, hc2]
    · subst hQ
      have hc3 : ¬ 1099511627776 < a * b := by simpa [hlt] using hc
      have hnn : 0 ≤ a * b := Int.mul_nonneg g1.1 g2.1
      rw [IntWalk.i64_in _ (by omega)]
      simp [mulS, pr, h0, h1, hc3]
  · rename_i h0 h1
    subst hQ
    simp at *
    have g1 := (isTick_iff a).1 h0
    have : a = 0 := by omega
    subst this
    simp [mulS, pr, h0, h1]
    decide
end Ir
end Go.Proofs.Ytflmbknimebmnaa
