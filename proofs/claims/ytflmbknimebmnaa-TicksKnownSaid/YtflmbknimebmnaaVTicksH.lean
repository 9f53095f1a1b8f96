/-
  The contracts of layer 1, over rows as values: TicksAll.
-/
import Derived.Test.YtflmbknimebmnaaVTicksG
set_option maxRecDepth 100000
set_option linter.unusedSimpArgs false
set_option linter.unusedVariables false
namespace Go.Proofs.Ytflmbknimebmnaa
open Go Ads
namespace Ir

/- A row that grows by append, one at a time. -/
def growV : Nat → AV
  | 0 => .nils
  | j + 1 => .sl 0 0 (j + 1) (j + 1) true
def growH (L : List Int) : Nat → Heap
  | 0 => ⟨0, .nil⟩
  | j + 1 => ⟨1, .node .nil (some (.cells (ints (L.take (j + 1))) true 1)) .nil⟩
def growK : Nat → Nat
  | 0 => 3
  | _ + 1 => 0

theorem flat_ints : ∀ l : List Int, flatCells (ints l) = ints l := by
  intro l
  induction l with
  | nil => rfl
  | cons x l ih => show (AV.int .i64 x).cells ++ flatCells (ints l) = _; rw [ih]; rfl

theorem grow_frz {P : Nat → Prop} {L : List Int} (hP : P 0) : ∀ n, n = L.length → Frz P (growH L n) (growV n) (.fz (growK n) (ints L))
  | 0, h => by
    have : L = [] := List.length_eq_zero_iff.1 h.symm
    subst this
    exact .nils
  | n + 1, h => by
    refine frz_open (b := 0) (s := 1) (wr := true) (es := 1) (vs := ints L) hP ?_ (flat_ints L).symm (allSize_map (enc := AV.int .i64) (fun _ => rfl) L) (by simp [ints, h]) (cl_ints L)
    show (growH L (n + 1)).get 0 = _
    simp only [growH, h, List.take_length]
    rfl

/- The law's numbers. -/
def lcmN (ns : List Nat) : Nat := ns.foldl Nat.lcm 1

theorem lcmN_step {a n : Nat} (ha : 1 ≤ a) (hn : 1 ≤ n) (hn2 : n ≤ 12) (hl : Nat.lcm a n ≤ 1048576) : lcmStep ((a : Int), 0) n = (((Nat.lcm a n : Nat) : Int), 0) := by
  have hal : a ≤ Nat.lcm a n := Nat.le_of_dvd (Nat.lcm_pos ha hn) (Nat.dvd_lcm_left a n)
  have ta : isTick (a : Int) = true := (isTick_iff _).2 (by omega)
  have tn : isTick (n : Int) = true := (isTick_iff _).2 (by omega)
  have hL : Nat.lcm a n = a * (n / Nat.gcd a n) := by
    rw [Nat.lcm, Nat.mul_div_assoc _ (Nat.gcd_dvd_right a n)]
  have g2 : gcdS a n = (((Nat.gcd a n : Nat) : Int), 0) := by simp [gcdS, ta, tn]
  have hq : (n : Int).tdiv (Nat.gcd a n : Nat) = ((n / Nat.gcd a n : Nat) : Int) := by rw [Int.ofNat_tdiv]
  have tq : isTick ((n / Nat.gcd a n : Nat) : Int) = true := (isTick_iff _).2 (by have := Nat.div_le_self n (Nat.gcd a n); generalize n / Nat.gcd a n = q at *; omega)
  have hmul : (a : Int) * ((n / Nat.gcd a n : Nat) : Int) = ((Nat.lcm a n : Nat) : Int) := by rw [hL]; simp
  simp only [lcmStep, if_true, g2, hq, mulS, ta, tq, Bool.and_self, hmul]
  rw [if_neg (by omega)]

theorem lcm_div {a n : Nat} (ha : a ∣ 27720) (hn : 1 ≤ n ∧ n ≤ 12) : Nat.lcm a n ∣ 27720 := by
  refine Nat.lcm_dvd ha ?_
  obtain ⟨h1, h2⟩ := hn
  have : n = 1 ∨ n = 2 ∨ n = 3 ∨ n = 4 ∨ n = 5 ∨ n = 6 ∨ n = 7 ∨ n = 8 ∨ n = 9 ∨ n = 10 ∨ n = 11 ∨ n = 12 := by omega
  rcases this with h | h | h | h | h | h | h | h | h | h | h | h <;> subst h <;> decide

theorem lcmN_fold : ∀ (ns : List Nat) (a : Nat), (∀ n, n ∈ ns → 1 ≤ n ∧ n ≤ 12) → 1 ≤ a → a ∣ 27720 →
    (ns.map fun n : Nat => (n : Int)).foldl lcmStep ((a : Int), 0) = (((ns.foldl Nat.lcm a : Nat) : Int), 0) ∧ 1 ≤ ns.foldl Nat.lcm a ∧ ns.foldl Nat.lcm a ∣ 27720 ∧
      ∀ m : Nat, ns.foldl Nat.lcm a ∣ m ↔ a ∣ m ∧ ∀ n, n ∈ ns → n ∣ m
  | [], a, _, h1, h2 => ⟨rfl, h1, h2, fun m => by simp⟩
  | n :: ns, a, hn, h1, h2 => by
    have hn1 := hn n List.mem_cons_self
    have hd := lcm_div h2 hn1
    have hp : 1 ≤ Nat.lcm a n := Nat.lcm_pos h1 hn1.1
    obtain ⟨i1, i2, i3, i4⟩ := lcmN_fold ns (Nat.lcm a n) (fun m hm => hn m (List.mem_cons_of_mem _ hm)) hp hd
    refine ⟨?_, i2, i3, ?_⟩
    · simp only [List.map_cons, List.foldl_cons]
      rw [lcmN_step h1 hn1.1 hn1.2 (Nat.le_trans (Nat.le_of_dvd (by decide) hd) (by decide))]
      exact i1
    · intro m
      simp only [List.foldl_cons]
      rw [i4 m, Nat.lcm_dvd_iff]
      constructor
      · rintro ⟨⟨x, y⟩, z⟩
        refine ⟨x, fun k hk => ?_⟩
        rcases List.mem_cons.1 hk with h | h
        · exact h ▸ y
        · exact z k h
      · rintro ⟨x, y⟩
        exact ⟨⟨x, y n List.mem_cons_self⟩, fun k hk => y k (List.mem_cons_of_mem _ hk)⟩

theorem ticks_ok {ns : List Nat} (hn : ∀ n, n ∈ ns → 1 ≤ n ∧ n ≤ 12) : (ns.map fun n : Nat => (n : Int)).all isTick = true ∧ (ns.map fun n : Nat => (n : Int)).contains 0 = false := by
  constructor
  · rw [List.all_eq_true]
    intro x hx
    obtain ⟨n, h, rfl⟩ := List.mem_map.1 hx
    have := hn n h
    exact (isTick_iff _).2 (by omega)
  · rw [Bool.eq_false_iff]
    intro h
    rw [List.contains_iff_mem] at h
    obtain ⟨n, h, h0⟩ := List.mem_map.1 h
    have := hn n h
    omega

theorem all_lcm {ns : List Nat} (hn : ∀ n, n ∈ ns → 1 ≤ n ∧ n ≤ 12) : lcmS 1099511627776 (ns.map fun n : Nat => (n : Int)) = (((lcmN ns : Nat) : Int), 0) ∧
    lcmS ((lcmN ns : Nat) - 1 : Int) (ns.map fun n : Nat => (n : Int)) = (0, 10) ∧ 1 ≤ lcmN ns ∧ lcmN ns ≤ 27720 ∧ ∀ m : Nat, lcmN ns ∣ m ↔ ∀ n, n ∈ ns → n ∣ m := by
  obtain ⟨i1, i2, i3, i4⟩ := lcmN_fold ns 1 hn (Nat.le_refl _) (by decide)
  have hle : lcmN ns ≤ 27720 := Nat.le_of_dvd (by decide) i3
  have i2' : 1 ≤ lcmN ns := i2
  obtain ⟨t1, t2⟩ := ticks_ok hn
  refine ⟨?_, ?_, i2, hle, fun m => by have := i4 m; simpa [lcmN] using this⟩
  · have c : (isTick 1099511627776 && ((ns.map fun n : Nat => (n : Int)).all isTick && !(ns.map fun n : Nat => (n : Int)).contains 0)) = true := by rw [t1, t2]; rfl
    simp only [lcmS, c, if_true]
    have i1' : (ns.map fun n : Nat => (n : Int)).foldl lcmStep (1, 0) = (((lcmN ns : Nat) : Int), 0) := i1
    rw [i1']
    rw [if_neg (fun h => by have h2 := h.2; simp only at h2; omega)]
    simp only [toldS, if_true]
    rw [if_neg (by omega)]
  · have tl : isTick ((lcmN ns : Nat) - 1 : Int) = true := (isTick_iff _).2 (by omega)
    have c : (isTick ((lcmN ns : Nat) - 1 : Int) && ((ns.map fun n : Nat => (n : Int)).all isTick && !(ns.map fun n : Nat => (n : Int)).contains 0)) = true := by rw [t1, t2, tl]; rfl
    simp only [lcmS, c, if_true]
    have i1' : (ns.map fun n : Nat => (n : Int)).foldl lcmStep (1, 0) = (((lcmN ns : Nat) : Int), 0) := i1
    rw [i1']
    rw [if_pos ⟨rfl, by simp only; omega⟩]
    simp [toldS]

theorem sum_fold : ∀ (ns : List Nat) (a : Nat), (∀ n, n ∈ ns → 1 ≤ n ∧ n ≤ 12) → a + 12 * ns.length ≤ 1000 → (ns.map fun n : Nat => (n : Int)).foldl addStep ((a : Int), 0) = (((a + ns.sum : Nat) : Int), 0) ∧ ns.sum ≤ 12 * ns.length
  | [], a, _, _ => ⟨by simp, by simp⟩
  | n :: ns, a, hn, h => by
    have hn1 := hn n List.mem_cons_self
    simp only [List.length_cons] at h
    obtain ⟨i1, i2⟩ := sum_fold ns (a + n) (fun m hm => hn m (List.mem_cons_of_mem _ hm)) (by omega)
    refine ⟨?_, by simp only [List.sum_cons, List.length_cons]; omega⟩
    have ta : isTick (a : Int) = true := (isTick_iff _).2 (by omega)
    have tn : isTick (n : Int) = true := (isTick_iff _).2 (by omega)
    have : addStep ((a : Int), 0) (n : Int) = (((a + n : Nat) : Int), 0) := by
      simp only [addStep, if_true, addS, ta, tn, Bool.and_self]
      rw [if_neg (by omega)]
      simp
    simp only [List.map_cons, List.foldl_cons, this, i1, List.sum_cons]
    rw [Nat.add_assoc]

theorem all_sum {ns : List Nat} (hn : ∀ n, n ∈ ns → 1 ≤ n ∧ n ≤ 12) (hl : ns.length ≤ 10) : sumS (ns.map fun n : Nat => (n : Int)) = (((ns.sum : Nat) : Int), 0) ∧ ns.sum ≤ 120 := by
  obtain ⟨i1, i2⟩ := sum_fold ns 0 hn (by omega)
  refine ⟨?_, by omega⟩
  have i1' : (ns.map fun n : Nat => (n : Int)).foldl addStep (0, 0) = (((0 + ns.sum : Nat) : Int), 0) := i1
  simp only [sumS, (ticks_ok hn).1, if_true, i1', toldS, Nat.zero_add]
  rw [if_neg (by omega)]

theorem gc_to {B : Nat} {e : Env} {h : Heap} (d : Nat) (l : List (Nat × AV)) (n : Nat) (m : List (Nat × Blk)) (p : Nat → Nat) (hl : RenAt p n e l) (hm : BlkAt p n h m)
    (hp : ∀ b c, b ∈ m.map (·.1) → c ∈ m.map (·.1) → p b = p c → b = c) (hfix : ∀ b, b < B → p b = b) (hn : B ≤ n) : GC B p e h (ek d l) (hk n m) := by
  refine ⟨?_, ?_, ?_, hfix, hn⟩
  · intro i v hv
    exact renAt_get hl (sk_low d _ i v hv)
  · intro b x hx
    exact blkAt_mem hm (hk_get hx)
  · intro b c hb hc he
    have mem : ∀ b, (hk n m).get b ≠ none → b ∈ m.map (·.1) := by
      intro b hb
      cases hx : (hk n m).get b with
      | none => exact absurd hx hb
      | some x => exact List.mem_map.2 ⟨(b, x), hk_get hx, rfl⟩
    exact hp b c (mem b hb) (mem c hc) he

theorem renB_ints {p : Nat → Nat} {n : Nat} {M : List Int} {vs : List AV} {wr : Bool} {es : Nat} (h : vs = ints M) : RenB p n (.cells (ints M) wr es) (.cells vs wr es) := by
  subst h
  refine .cells rfl fun i x y hx hy => ?_
  rw [hx] at hy
  cases hy
  obtain ⟨m, _, rfl⟩ := List.mem_map.1 (List.mem_of_getElem? hx)
  exact .cl rfl

theorem flat_ints1 : ∀ l : List Int, flatL (ints l) = true
  | [] => rfl
  | x :: l => by show cond (AV.int .i64 x).flat (flatL (ints l)) false = true; rw [flat_ints1 l]; rfl

/-- One more in a row that has been made by append. -/
theorem app_open {nx : Nat} {tr : Tr Blk} {b n : Nat} {vs : List AV} {x : AV} {m : Int} (hg : Heap.get ⟨nx, tr⟩ b = some (.cells vs true 1)) (hv : vs.length = n) (hn : n ≤ 1048576) (hs : srcV 1 ⟨nx, tr⟩ x = some (1, [.int .i64 m])) :
    eV (.append 1 8) [.sl b 0 n n true, x] ⟨nx, tr⟩ = some (.sl nx 0 (n + 1) (n + 1) true, ⟨nx + 1, Tr.set (Heap.del ⟨nx, tr⟩ b).m nx (.cells (vs ++ [.int .i64 m]) true 1)⟩) := by
  subst hv
  have hl : Heap.loadN ⟨nx, tr⟩ b 0 (vs.length * 1) = some vs := by
    rw [loadN_some hg (by simp)]
    simp
  have b1 : Nat.ble (vs.length + 1) vs.length = false := by
    cases hb : Nat.ble (vs.length + 1) vs.length with
    | false => rfl
    | true => have := Nat.le_of_ble_eq_true hb; omega
  have b2 : Nat.ble ((vs.length + 1) * 8) 140737488355328 = true := Nat.ble_eq_true_of_le (by omega)
  have b3 : Nat.ble (vs.length + 1) 9223372036854775807 = true := Nat.ble_eq_true_of_le (by omega)
  have b4 : Nat.beq 1 0 = false := rfl
  have b5 : Nat.beq vs.length (0 + vs.length * 1) = true := by rw [Nat.zero_add, Nat.mul_one]; exact Nat.beq_refl _
  have b6 : Nat.beq vs.length vs.length = true := Nat.beq_refl _
  have b7 : Nat.beq 1 1 = true := rfl
  simp only [eV, l2, hs]
  show cond (flatL [AV.int .i64 m]) _ _ = _
  rw [show flatL [AV.int .i64 m] = true from rfl, cond_true, b4, Bool.false_and, cond_false, b1, cond_false, b2, b3, Bool.and_self, cond_true, hg, hl]
  simp only [b5, b6, b7, Bool.and_self, cond_true]
  rfl

theorem app_nils {nx : Nat} {tr : Tr Blk} {x : AV} {m : Int} (hs : srcV 1 ⟨nx, tr⟩ x = some (1, [.int .i64 m])) :
    eV (.append 1 8) [.nils, x] ⟨nx, tr⟩ = some (.sl nx 0 1 1 true, ⟨nx + 1, Tr.set tr nx (.cells [.int .i64 m] true 1)⟩) := by
  simp only [eV, l2, hs]
  rfl

theorem idx_sl {b n cap j : Nat} {op : Bool} (h : j < n) : pV (.iaddrS 1) [.sl b 0 n cap op, .int .i64 (j : Nat)] = some (.ptr b j) := by
  have b1 : Nat.ble (j + 1) n = true := Nat.ble_eq_true_of_le h
  simp only [pV, l2, dNat]
  show cond (Nat.ble (j + 1) n) (some (AV.ptr b (0 + j * 1))) none = _
  rw [b1, cond_true, Nat.zero_add, Nat.mul_one]

theorem wrap_nat {n : Nat} (h : n < 9223372036854775808) : IntKind.i64.wrap (n : Int) = n := IntWalk.i64_in _ (by omega)

end Ir
end Go.Proofs.Ytflmbknimebmnaa
