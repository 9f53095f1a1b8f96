/-
  Demand: Hyper of the program.
-/
import Derived.Test.YtlndlbngfgaoeaaVDemI
import Derived.Test.YtlndlbngfgaoeaaVTick
set_option maxRecDepth 100000
set_option linter.unusedSimpArgs false
set_option linter.unusedVariables false
namespace Go.Proofs.Ytlndlbngfgaoeaa
open Go Ads
namespace Ir

theorem lcm_step {a n : Nat} (ha : 1 ≤ a) (ha2 : a ≤ 1048576) (hn : 1 ≤ n) (hn2 : n ≤ 1048576) : lcmStep ((a : Int), 0) n = (((Nat.lcm a n : Nat) : Int), 0) := by
  have ta : isTick (a : Int) = true := (isTick_iff _).2 (by omega)
  have tn : isTick (n : Int) = true := (isTick_iff _).2 (by omega)
  have hL : Nat.lcm a n = a * (n / Nat.gcd a n) := by
    rw [Nat.lcm, Nat.mul_div_assoc _ (Nat.gcd_dvd_right a n)]
  have g2 : gcdS a n = (((Nat.gcd a n : Nat) : Int), 0) := by simp [gcdS, ta, tn]
  have hq : (n : Int).tdiv (Nat.gcd a n : Nat) = ((n / Nat.gcd a n : Nat) : Int) := by rw [Int.ofNat_tdiv]
  have hle : n / Nat.gcd a n ≤ 1048576 := by have := Nat.div_le_self n (Nat.gcd a n); omega
  have tq : isTick ((n / Nat.gcd a n : Nat) : Int) = true := (isTick_iff _).2 (by generalize n / Nat.gcd a n = q at *; omega)
  have hmul : (a : Int) * ((n / Nat.gcd a n : Nat) : Int) = ((Nat.lcm a n : Nat) : Int) := by rw [hL]; simp
  have hb : Nat.lcm a n ≤ 1048576 * 1048576 := by rw [hL]; exact Nat.mul_le_mul ha2 hle
  simp only [lcmStep, if_true, g2, hq, mulS, ta, tq, Bool.and_self, hmul]
  rw [if_neg (by omega)]

theorem lcm_two {a n : Nat} (ha : 1 ≤ a) (ha2 : a ≤ 4096) (hn : 1 ≤ n) (hn2 : n ≤ 64) : lcmS 4096 [(a : Int), (n : Int)] = (if Nat.lcm a n ≤ 4096 then (((Nat.lcm a n : Nat) : Int), (0 : Int)) else (0, 10)) := by
  have ta : isTick (a : Int) = true := (isTick_iff _).2 (by omega)
  have tn : isTick (n : Int) = true := (isTick_iff _).2 (by omega)
  have f : [(a : Int), (n : Int)].foldl lcmStep (1, 0) = (((Nat.lcm a n : Nat) : Int), 0) := by
    have h1 : lcmStep (1, 0) (a : Int) = ((a : Int), 0) := by
      have := lcm_step (a := 1) (n := a) (by omega) (by omega) ha (by omega)
      rwa [Nat.lcm_one_left] at this
    simp only [List.foldl_cons, List.foldl_nil, h1]
    exact lcm_step ha (by omega) hn (by omega)
  have hc : (isTick 4096 && ([(a : Int), (n : Int)].all isTick && ![(a : Int), (n : Int)].contains 0)) = true := by
    have e1 : isTick 4096 = true := rfl
    simp [e1, ta, tn]
    omega
  have hb : Nat.lcm a n ≤ 1048576 := Nat.le_trans (Nat.le_of_dvd (Nat.mul_pos ha hn) (Nat.lcm_dvd_mul a n)) (Nat.le_trans (Nat.mul_le_mul ha2 hn2) (by decide))
  simp only [lcmS, f, hc, if_true]
  by_cases h : Nat.lcm a n ≤ 4096
  · rw [if_neg (by rintro ⟨_, x⟩; omega), toldS, if_pos rfl, if_neg (by omega), if_pos h]
  · rw [if_pos ⟨trivial, by omega⟩, toldS, if_neg (by decide), if_neg h]

def perN (l : List Tk) : List Nat := l.map (·.p.toNat)
/-- The hyperperiod. -/
def hypN (l : List Tk) (n : Nat) : Nat := (perN l).foldl Nat.lcm n
def hypS (l : List Tk) (n : Int) : Int × Int := if tasksOk l = true ∧ 1 ≤ n ∧ n ≤ 64 then (if hypN l n.toNat ≤ 4096 then ((hypN l n.toNat : Nat), 0) else (0, 5)) else (0, 2)

theorem hyp_next {l : List Tk} {j : Nat} (hj : j < l.length) (n : Nat) : hypN (l.take (j + 1)) n = Nat.lcm (hypN (l.take j) n) l[j].p.toNat := by
  simp only [hypN, perN]; rw [take_next hj]; simp only [List.map_append, List.foldl_append]; rfl
theorem hyp_cons (t : Tk) (l : List Tk) (n : Nat) : hypN (t :: l) n = hypN l (Nat.lcm n t.p.toNat) := rfl
theorem hyp_dvd (l : List Tk) : ∀ (n m : Nat), hypN l n ∣ m ↔ n ∣ m ∧ ∀ t, t ∈ l → t.p.toNat ∣ m := by
  induction l with
  | nil => intro n m; simp [hypN, perN]
  | cons t l ih =>
    intro n m
    rw [hyp_cons, ih, Nat.lcm_dvd_iff]
    constructor
    · rintro ⟨⟨x, y⟩, z⟩
      exact ⟨x, fun u hu => by rcases List.mem_cons.1 hu with h | h; exact h ▸ y; exact z u h⟩
    · rintro ⟨x, y⟩
      exact ⟨⟨x, y t List.mem_cons_self⟩, fun u hu => y u (List.mem_cons_of_mem _ hu)⟩
theorem hyp_pos {l : List Tk} (h : ∀ t, t ∈ l → 1 ≤ t.p) : ∀ {n : Nat}, 1 ≤ n → 1 ≤ hypN l n := by
  induction l with
  | nil => intro n hn; exact hn
  | cons t l ih =>
    intro n hn
    rw [hyp_cons]
    exact ih (fun u hu => h u (List.mem_cons_of_mem _ hu)) (Nat.lcm_pos hn (by have := h t List.mem_cons_self; omega))
theorem hyp_grow {l : List Tk} (h : ∀ t, t ∈ l → 1 ≤ t.p) {n : Nat} (hn : 1 ≤ n) (j : Nat) : hypN (l.take j) n ≤ hypN l n := by
  refine Nat.le_of_dvd (hyp_pos h hn) ?_
  rw [hyp_dvd]
  have := (hyp_dvd l n (hypN l n)).1 (Nat.dvd_refl _)
  exact ⟨this.1, fun t ht => this.2 t (List.mem_of_mem_take ht)⟩

theorem dhyper_c (k : Nat) (l : List Tk) (n : Int) (hl : l.length < 2 ^ 62) : PC fs ms f_demand_Hyper [.fz k (tks l), .int .i64 n] (pairI (hypS l n)) := by
  refine pc_of (by simp [clL, AV.cl, cl_ints, cl_tks]) rfl ?_
  refine vd_start (af := C_demand_Hyper) false rfl (Nat.le_of_ble_eq_true rfl) ?_
  generalize hQ : (fun (v : AV) (_ : Heap) => v = pairI (hypS l n)) = Q
  set_option smartUnfolding false in conv => whnf
  refine vd_pure (all_c k l hl) ?_
  set_option smartUnfolding false in conv => whnf
  iterate 4 (all_goals (first | (refine br (fun hc => ?_) (fun hc => ?_) <;> (try rw [hc]) <;> (set_option smartUnfolding false in conv => whnf)) | skip))
  · subst hQ; rw [hypS, if_neg (by simp at hc; simp [hc])]; rfl
  · subst hQ; simp at hc; rw [hypS, if_neg (by omega)]; rfl
  · subst hQ; simp at hc; rw [hypS, if_neg (by omega)]; rfl
  rename_i c0 c1
  have h1 : tasksOk l = true := by simpa using c0
  simp at hc c1
  obtain ⟨N, rfl⟩ := Int.eq_ofNat_of_zero_le (show 0 ≤ n by omega)
  have hps : ∀ t, t ∈ l → 1 ≤ t.p := fun t ht => (tasksOk_p h1 ht).2
  have h64 : ∀ t, t ∈ l → t.p ≤ 64 := fun t ht => by
    have := (tasksOk_p h1 ht).1
    simp only [taskOk, decide_eq_true_eq] at this
    omega
  refine vc_to0 6 [(6, .int .i64 ((hypN (l.take 0) N : Nat) : Int)), (23, .fz k (tks l)), (24, .int .i64 (tks l).length), (25, .int .i64 ((0 : Nat) : Int))] (by repeat' (first | exact trivial | refine renAt_sl rfl (by omega) ?_ | refine renAt_ptr rfl (by omega) ?_ | refine renAt_yield rfl (by omega) ?_ | refine renAt_cl rfl (by first | rfl | simp [clL, AV.cl, cl_ints, cl_tks]) ?_ | refine renAt_cl (inc_slot (by omega)) rfl ?_)) ?_
  refine for_row 6 l.length (fun j => hypN (l.take j) N ≤ 4096) (fun j => [(6, .int .i64 ((hypN (l.take j) N : Nat) : Int)), (23, .fz k (tks l)), (24, .int .i64 (tks l).length), (25, .int .i64 (j : Nat))]) ?_ ?_ (by show N ≤ 4096; omega)
  · intro j hj hi
    have hm := List.getElem_mem hj
    have p1 := hps _ hm
    have p2 := h64 _ hm
    obtain ⟨p, hp⟩ := Int.eq_ofNat_of_zero_le (show 0 ≤ l[j].p by omega)
    have hN := hyp_next hj N
    have hpos : 1 ≤ hypN (l.take j) N := hyp_pos (fun t ht => hps t (List.mem_of_mem_take ht)) (by omega)
    rw [hp, show ((p : Int)).toNat = p from rfl] at hN
    set_option smartUnfolding false in conv => whnf
    refine br (fun hc => ?_) (fun hc => ?_) <;> (try rw [hc]) <;> (set_option smartUnfolding false in conv => whnf)
    · refine ⟨_, idx_tk hj, ?_⟩
      set_option smartUnfolding false in conv => whnf
      refine vd_view (lcm_c 4096 2 [((hypN (l.take j) N : Nat) : Int), l[j].p] (by simp)) rfl (.cons (.clean rfl) (.cons (.row (s := 1) trivial rfl rfl rfl rfl (Nat.le_refl _) (by omega) (fun _ => rfl) (fun _ => rfl) rfl) .nil)) ?_
      rw [hp, lcm_two hpos hi (by omega) (by omega), ← hN]
      by_cases hle : hypN (l.take (j + 1)) N ≤ 4096
      · rw [if_pos hle]
        set_option smartUnfolding false in conv => whnf
        exact ⟨hle, (by repeat' (first | exact trivial | refine renAt_sl rfl (by omega) ?_ | refine renAt_ptr rfl (by omega) ?_ | refine renAt_yield rfl (by omega) ?_ | refine renAt_cl rfl (by first | rfl | simp [clL, AV.cl, cl_ints, cl_tks]) ?_ | refine renAt_cl (inc_slot (by omega)) rfl ?_))⟩
      · rw [if_neg hle]
        set_option smartUnfolding false in conv => whnf
        subst hQ
        have := hyp_grow hps (n := N) (by omega) (j + 1)
        rw [hypS, if_pos ⟨h1, by omega, by omega⟩, show ((N : Int)).toNat = N from rfl, if_neg (by omega)]
        rfl
    · exfalso
      have := of_decide_eq_false hc
      simp only [len_tks] at this
      omega
  · intro hi
    set_option smartUnfolding false in conv => whnf
    refine br (fun hc => ?_) (fun hc => ?_) <;> (try rw [hc]) <;> (set_option smartUnfolding false in conv => whnf)
    · exfalso
      have := of_decide_eq_true hc
      simp only [len_tks] at this
      omega
    · subst hQ
      rw [List.take_length] at *
      rw [hypS, if_pos ⟨h1, by omega, by omega⟩, show ((N : Int)).toNat = N from rfl, if_pos hi]
      rfl
end Ir
end Go.Proofs.Ytlndlbngfgaoeaa
