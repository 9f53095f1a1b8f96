/-
  Loops over rows; rows of numbers.
-/
import Derived.Test.YtmnolnoeibhjgaaGreatVsWp
import Derived.IntWalk
set_option linter.unusedVariables false
set_option linter.unusedSimpArgs false
namespace Go.Proofs.YtmnolnoeibhjgaaGreat
namespace Ads

section
variable {fs : Nat → Option AFunc} {ms : Nat → String → Option Nat} {rd : Bool}

theorem for_row {c : AC} {Q : AX → Env → Heap → Prop} (d N : Nat) (I : Nat → Prop) (E : Nat → List (Nat × AV))
  (step : ∀ j, j < N → I j → vpC fs ms 0 rd false c (ek d (E j)) (hk 0 []) fun x e1 h1 => match x with | .normal => I (j + 1) ∧ RenAt id 0 e1 (E (j + 1)) | x => Q x e1 h1)
  (last : I N → vpC fs ms 0 rd false c (ek d (E N)) (hk 0 []) fun x e1 h1 => match x with | .normal => False | x => Q x e1 h1)
  (h0 : I 0) : VC fs ms 0 rd (.loop c) (ek d (E 0)) (hk 0 []) Q := by
 have : ∀ r j, j + r = N → I j → VC fs ms 0 rd (.loop c) (ek d (E j)) (hk 0 []) Q := by
  intro r
  induction r with
  | zero =>
   intro j hj hi
   have : j = N := by omega
   subst this
   obtain ⟨x, e1, h1, hb, hk⟩ := vpC_sound (last hi)
   cases x with
   | normal => exact hk.elim
   | exit i => exact ⟨_, _, _, .loopX hb rfl, hk⟩
   | ret => exact ⟨_, _, _, .loopX hb rfl, hk⟩
   | panic v => exact ⟨_, _, _, .loopX hb rfl, hk⟩
  | succ r ih =>
   intro j hj hi
   obtain ⟨x, e1, h1, hb, hk⟩ := vpC_sound (step j (by omega) hi)
   cases x with
   | normal =>
    obtain ⟨hi', hr⟩ := hk
    obtain ⟨x2, e2, h2, hb2, hk2⟩ := vc_to0 (h := h1) d (E (j + 1)) hr (ih (j + 1) (by omega) hi')
    exact ⟨_, _, _, .loopN hb hb2, hk2⟩
   | exit i => exact ⟨_, _, _, .loopX hb rfl, hk⟩
   | ret => exact ⟨_, _, _, .loopX hb rfl, hk⟩
   | panic v => exact ⟨_, _, _, .loopX hb rfl, hk⟩
 exact this N 0 (by omega) h0

theorem inc_val {j : Nat} (h : j < 9223372036854775807) : IntKind.i64.wrap ((j : Int) + 1) = ((j + 1 : Nat) : Int) := by
 rw [IntWalk.i64_in _ (by omega)]; rfl
theorem inc_slot {j : Nat} (h : j < 9223372036854775807) : some (AV.int .i64 (IntKind.i64.wrap ((j : Int) + 1))) = some (AV.int .i64 ((j + 1 : Nat) : Int)) := by rw [inc_val h]

theorem idx_val {l : List AV} {j n k : Nat} {x : AV} (hx : l[j]? = some x) (hs : x.cells.length = n) : pV (.iaddrS n) [.fz k l, .int .i64 (j : Nat)] = some (.fp x.cells 0) := by
 subst hs
 simp only [pV, l2, dNat]
 show (match l[j]? with | some y => cond (Nat.beq y.cells.length x.cells.length) (some (AV.fp y.cells 0)) none | none => none) = _
 rw [hx]
 simp
theorem idx_map {α : Type} {enc : α → AV} {l : List α} {j n k : Nat} (hj : j < l.length) (hs : (enc l[j]).cells.length = n) : pV (.iaddrS n) [.fz k (l.map enc), .int .i64 (j : Nat)] = some (.fp (enc l[j]).cells 0) :=
 idx_val (by simp [hj]) hs

/- Rows of numbers. -/
def ints (l : List Int) : List AV := l.map (AV.int .i64)
theorem idx_int {l : List Int} {j k : Nat} (hj : j < l.length) : pV (.iaddrS 1) [.fz k (ints l), .int .i64 (j : Nat)] = some (.fp [.int .i64 l[j]] 0) :=
 idx_val (x := .int .i64 l[j]) (by simp [ints, hj]) rfl
theorem clL_map {α : Type} {enc : α → AV} (h : ∀ x, (enc x).cl = true) : ∀ l : List α, clL (l.map enc) = true
 | [] => rfl
 | x :: l => by simp only [List.map_cons, clL, h x, Bool.true_and]; exact clL_map h l
theorem cl_ints (l : List Int) : clL (ints l) = true := clL_map (enc := AV.int .i64) (fun _ => rfl) l
theorem allSize_map {α : Type} {enc : α → AV} {n : Nat} (h : ∀ x, (enc x).cells.length = n) : ∀ l : List α, allSize n (l.map enc) = true
 | [] => rfl
 | x :: l => by simp only [List.map_cons, allSize, h x, Nat.beq_refl, Bool.true_and]; exact allSize_map h l
theorem size_ints (l : List Int) : allSize 1 (ints l) = true := allSize_map (enc := AV.int .i64) (fun _ => rfl) l
theorem flat_ints (l : List Int) : flatCells (ints l) = ints l := by
 induction l with
 | nil => rfl
 | cons x l ih =>
  show AV.cells (.int .i64 x) ++ flatCells (ints l) = _
  rw [ih]
  rfl
theorem len_ints (l : List Int) : (ints l).length = l.length := by simp [ints]

/- Heaps that are not written out. -/
theorem ld1 {h : Heap} {b o : Nat} {vs : List AV} {wr : Bool} {es : Nat} {v : AV} (hg : h.get b = some (.cells vs wr es)) (hv : vs[o]? = some v) : rV .load1 [.ptr b o] h = some v := by
 simp only [rV, l1]; rw [load1_some hg]; exact hv
theorem ldN {h : Heap} {b o n : Nat} {vs : List AV} {wr : Bool} {es : Nat} (hg : h.get b = some (.cells vs wr es)) (hl : o + n ≤ vs.length) : rV (.loadN n) [.ptr b o] h = some (.agg ((vs.drop o).take n)) := by
 simp only [rV, l1]; rw [loadN_some hg hl]; rfl
theorem take_next {α : Type} {l : List α} {j : Nat} (hj : j < l.length) : l.take (j + 1) = l.take j ++ [l[j]] := by simp
end

section
/- The test of a region's windows, worked out. -/
def winC1 (l0 : List Ins) (tr0 : List Mark1) (g1 : Heap) (k : Nat) (m : Mark1) : List Nat → Prop
 | [] => True
 | c :: cs => (cond (Nat.ble c k) (winAt (nextHeap (tr0.drop c) g1) (fun _ => true) (l0.drop c) (tr0.drop c) (k - c))
   (Nat.ble (c + 1) tr0.length = true ∧ ((m.v.dt = true ∧ ∀ i o, l0[k]? = some i → i.op = .r o → rV o m.vals (nextHeap (tr0.drop c) g1) = some m.v) ∨ ∃ cs o1, m.vals = [.fp cs o1]))) ∧ winC1 l0 tr0 g1 k m cs
def winC (l0 : List Ins) (tr0 : List Mark1) (g1 : Heap) : Nat → List (List Nat) → List Mark1 → Prop
 | k, [] :: win, m :: tr => winC l0 tr0 g1 (k + 1) win tr
 | k, (c :: cs) :: win, m :: tr => (m.on = true → winC1 l0 tr0 g1 k m (c :: cs)) ∧ winC l0 tr0 g1 (k + 1) win tr
 | _, _, _ => True

def WinOne (l0 : List Ins) (tr0 : List Mark1) (g1 : Heap) (k : Nat) (m : Mark1) (c : Nat) : Prop :=
 (c ≤ k ∧ winAt (nextHeap (tr0.drop c) g1) (fun _ => true) (l0.drop c) (tr0.drop c) (k - c)) ∨
  (k ≤ c ∧ c < tr0.length ∧ ((m.v.dt = true ∧ ∀ i o, l0[k]? = some i → i.op = .r o → rV o m.vals (nextHeap (tr0.drop c) g1) = some m.v) ∨ ∃ cs o1, m.vals = [.fp cs o1]))
theorem winC1_mem {l0 : List Ins} {tr0 : List Mark1} {g1 : Heap} {k : Nat} {m : Mark1} : ∀ {cs : List Nat}, winC1 l0 tr0 g1 k m cs → ∀ c ∈ cs, WinOne l0 tr0 g1 k m c
 | [], _, c, hc => by simp at hc
 | d :: cs, h, c, hc => by
  rcases List.mem_cons.1 hc with e | e
  ·subst e
   have h1 := h.1
   cases hb : Nat.ble c k with
   | true => rw [hb] at h1; exact .inl ⟨Nat.le_of_ble_eq_true hb, h1⟩
   | false =>
    rw [hb] at h1
    refine .inr ⟨?_, Nat.le_of_ble_eq_true h1.1, h1.2⟩
    by_cases hl : c ≤ k
    ·rw [Nat.ble_eq_true_of_le hl] at hb; exact absurd hb (by decide)
    ·omega
  ·exact winC1_mem h.2 c e
theorem winC_get {l0 : List Ins} {tr0 : List Mark1} {g1 : Heap} : ∀ {win : List (List Nat)} {tr : List Mark1} {k0 : Nat}, winC l0 tr0 g1 k0 win tr → ∀ (k : Nat) cs m, win[k]? = some cs → tr[k]? = some m → m.on = true → ∀ c ∈ cs, WinOne l0 tr0 g1 (k0 + k) m c
 | [], _, _, _, k, cs, m, h1, _, _, c, _ => by simp at h1
 | _ :: _, [], _, _, k, cs, m, _, h2, _, c, _ => by simp at h2
 | ds :: win, n :: tr, k0, h, 0, cs, m, h1, h2, hon, c, hc => by
  simp only [List.getElem?_cons_zero, Option.some.injEq] at h1 h2
  subst h1 h2
  cases ds with
  | nil => simp at hc
  | cons d ds => exact winC1_mem (h.1 hon) c hc
 | ds :: win, n :: tr, k0, h, k + 1, cs, m, h1, h2, hon, c, hc => by
  have h2' : winC l0 tr0 g1 (k0 + 1) win tr := by
   cases ds with
   | nil => exact h
   | cons d ds => exact h.2
  have := winC_get h2' k cs m (by simpa using h1) (by simpa using h2) hon c hc
  rwa [show k0 + 1 + k = k0 + (k + 1) by omega] at this
theorem winOk_of {l : List Ins} {win : List (List Nat)} {tr : List Mark1} {g1 : Heap} (h : winC l tr g1 0 win tr) : winOk l win tr g1 := by
 intro k i cs m o h1 h2 h3 hop hon c hc
 have := winC_get h k cs m h2 h3 hon c hc
 rw [Nat.zero_add] at this
 exact this.imp id fun ⟨x, y, z⟩ => ⟨x, y, z.imp (fun ⟨a, b⟩ => ⟨a, b i o h1 hop⟩) id⟩
end
end Ads
end Go.Proofs.YtmnolnoeibhjgaaGreat
