/-
  Judge: a partition's notes.
-/
import Derived.Test.YtmnolnoeibhjgaaGreatVsX
set_option maxRecDepth 100000
set_option linter.unusedSimpArgs false
set_option linter.unusedVariables false
namespace Go.Proofs.YtmnolnoeibhjgaaGreat
open Go Ads
namespace Ads
theorem src_nv {h : Heap} {b s n cap : Nat} {op wr : Bool} {es : Nat} {cs : List AV} (hg : h.get b = some (.cells cs wr es)) (hl : cs.length = n * s) : srcV s h (.sl b 0 n cap op) = some (n, cs) := by
  have b1 : Nat.ble (0 + n * s) cs.length = true := Nat.ble_eq_true_of_le (by omega)
  show (h.loadN b 0 (n * s)).map _ = _
  have : h.loadN b 0 (n * s) = some cs := by
    simp only [Heap.loadN, Heap.row, hg, b1, cond_true, List.drop_zero]
    rw [← hl, List.take_length]
  rw [this]
  rfl
/-- One more behind a row that is full: a new row. -/
theorem app_oneB {h : Heap} {s bytes b m : Nat} {vs cs : List AV} {x : AV} (hg : h.get b = some (.cells vs true s)) (hv : vs.length = m * s) (hsrc : srcV s h x = some (1, cs)) (hf : flatL cs = true) (hb : (m + 1) * bytes ≤ 140737488355328) (hm : m + 1 ≤ 140737488355328) :
    eV (.append s bytes) [.sl b 0 m m true, x] h = some (.sl h.next 0 (m + 1) (m + 1) true, (h.del b).new (.cells (vs ++ cs) true s)) := by
  have b1 : Nat.ble (m + 1) m = false := by cases hb : Nat.ble (m + 1) m with | false => rfl | true => (have := Nat.le_of_ble_eq_true hb; omega)
  have b2 : Nat.ble ((m + 1) * bytes) 140737488355328 = true := Nat.ble_eq_true_of_le hb
  have b3 : Nat.ble (m + 1) 9223372036854775807 = true := Nat.ble_eq_true_of_le (by omega)
  have b4 : Nat.ble (0 + m * s) vs.length = true := Nat.ble_eq_true_of_le (by omega)
  have b5 : Nat.beq vs.length (0 + m * s) = true := by rw [hv, Nat.zero_add]; exact Nat.beq_refl _
  have hld : h.loadN b 0 (m * s) = some vs := by
    simp only [Heap.loadN, Heap.row, hg, b4, cond_true, List.drop_zero]
    rw [← hv, List.take_length]
  simp only [eV, l2, hsrc]
  show cond (flatL cs) _ _ = _
  rw [hf, cond_true]
  show cond (Nat.beq 1 0 && Nat.ble m m) _ _ = _
  rw [show Nat.beq 1 0 = false from rfl, Bool.false_and, cond_false, b1, cond_false, b2, b3, Bool.and_self, cond_true, hg, hld]
  show cond true (cond (true && Nat.beq vs.length (0 + m * s) && Nat.beq m m && Nat.beq s s) _ _) _ = _
  rw [b5, Nat.beq_refl, Nat.beq_refl]
  rfl
theorem get_del_ne2 {h : Heap} {b c : Nat} (hn : c ≠ b) : (h.del b).get c = h.get c := by rw [Heap.get_del, if_neg hn]
end Ads
namespace Ir

structure Nt where
  a : Int
  k : Int
  p : Int
  t : Int
  n : Int
  e : Int
  s : List UInt8
  deriving DecidableEq
def nt (x : Nt) : AV := .agg [.int .i64 x.a, .int .i64 x.k, .int .i64 x.p, .int .i64 x.t, .int .i64 x.n, .int .i64 x.e, .str x.s]
def nts (l : List Nt) : List AV := l.map nt
theorem len_nts (l : List Nt) : (nts l).length = l.length := List.length_map ..
theorem size_nts (l : List Nt) : allSize 7 (nts l) = true := allSize_map (enc := nt) (fun _ => rfl) l
theorem cl_nts (l : List Nt) : clL (nts l) = true := clL_map (enc := nt) (fun _ => rfl) l
theorem idx_nt {l : List Nt} {j k : Nat} (hj : j < l.length) : pV (.iaddrS 7) [.fz k (nts l), .int .i64 (j : Nat)] = some (.fp (nt l[j]).cells 0) := idx_map (enc := nt) hj rfl

/-- A row of notes that was made behind the first blocks. -/
def NR (lo : Nat) (h : Heap) (v : AV) (M : List Nt) : Prop := (M = [] ∧ v = .nils) ∨ ∃ b, lo ≤ b ∧ b < h.next ∧ v = .sl b 0 M.length M.length true ∧ h.get b = some (.cells (flatCells (nts M)) true 7)
theorem NR.keep {lo : Nat} {h h' : Heap} {v : AV} {M : List Nt} (hr : NR lo h v M) (fr : Fr h h' []) : NR lo h' v M := by
  rcases hr with hr | ⟨b, h1, h2, h3, h4⟩
  · exact .inl hr
  · exact .inr ⟨b, h1, Nat.lt_of_lt_of_le h2 fr.next, h3, by rw [fr.keep b h2 (by simp)]; exact h4⟩
theorem NR.frz {lo : Nat} {h : Heap} {v : AV} {M : List Nt} (hr : NR lo h v M) : ∃ k, Frz (fun _ => True) h v (.fz k (nts M)) := by
  rcases hr with ⟨rfl, rfl⟩ | ⟨b, h1, h2, rfl, h4⟩
  · exact ⟨3, .nils⟩
  · exact ⟨0, frz_open trivial h4 rfl (size_nts M) (len_nts M).symm (cl_nts M)⟩
theorem NR.app {lo : Nat} {h : Heap} {v : AV} {M : List Nt} (hr : NR lo h v M) (hlo : lo ≤ h.next) (hl : (M.length + 1) * 64 ≤ 140737488355328) (x : Nt) : ∃ v' g', eV (.append 7 64) [v, .sl h.next 0 1 1 false] (h.new (.cells (nt x).cells true 0)) = some (v', g') ∧
    NR lo g' v' (M ++ [x]) ∧ h.next ≤ g'.next ∧ ∀ c, c < lo → g'.get c = h.get c := by
  have hsrc : srcV 7 (h.new (.cells (nt x).cells true 0)) (.sl h.next 0 1 1 false) = some (1, (nt x).cells) := src_nv get_new_same rfl
  have hfa : flatCells (nts (M ++ [x])) = flatCells (nts M) ++ (nt x).cells := by rw [nts, List.map_append, flat_app]; simp [flatCells, nts]
  rcases hr with ⟨h1, h2⟩ | ⟨b, h1, h2, h3, h4⟩
  · subst h1 h2
    refine ⟨_, _, app_nilsS (by omega) hsrc rfl, .inr ⟨h.next + 1, by omega, Nat.lt_succ_self _, rfl, ?_⟩, by show h.next ≤ h.next + 1 + 1; omega, fun c hc => ?_⟩
    · exact get_new_same (h := h.new (.cells (nt x).cells true 0))
    · exact (get_new_ne (h := h.new (.cells (nt x).cells true 0)) (show c < h.next + 1 by omega)).trans (get_new_ne (by omega))
  · subst h3
    have hg : (h.new (.cells (nt x).cells true 0)).get b = some (.cells (flatCells (nts M)) true 7) := by rw [get_new_ne h2]; exact h4
    refine ⟨_, _, app_oneB hg (by rw [flat_size (size_nts M), len_nts]) hsrc rfl hl (by omega), .inr ⟨h.next + 1, by omega, Nat.lt_succ_self _, by rw [List.length_append]; rfl, ?_⟩, by show h.next ≤ h.next + 1 + 1; omega, fun c hc => ?_⟩
    · have := get_new_same (h := (h.new (.cells (nt x).cells true 0)).del b) (x := .cells (flatCells (nts M) ++ (nt x).cells) true 7)
      rw [show ((h.new (.cells (nt x).cells true 0)).del b).next = h.next + 1 from rfl] at this
      rw [this, hfa]
    · have hne : c ≠ b := by omega
      exact (get_new_ne (h := (h.new (.cells (nt x).cells true 0)).del b) (show c < h.next + 1 by omega)).trans ((get_del_ne2 hne).trans (get_new_ne (by omega)))

def flt (p : Int) (l : List Nt) : List Nt := l.filter fun x => x.p == p
theorem flt_next {p : Int} {l : List Nt} {j : Nat} (hj : j < l.length) : flt p (l.take (j + 1)) = if l[j].p = p then flt p (l.take j) ++ [l[j]] else flt p (l.take j) := by
  rw [take_next hj, flt, List.filter_append]
  by_cases h : l[j].p = p
  · rw [if_pos h]; simp [flt, h]
  · rw [if_neg h]; simp [flt, h]
theorem flt_le (p : Int) (l : List Nt) : (flt p l).length ≤ l.length := List.length_filter_le ..

/-- In how many ticks it ran. -/
def isRan (from_ to_ : Int) (x : Nt) : Bool := decide (x.k = 1) && decide (from_ ≤ x.a) && decide (x.a < to_)
def ranN (p from_ to_ : Int) (l : List Nt) : Nat := ((flt p l).filter (isRan from_ to_)).length

theorem ranN_next {p x1 x2 : Int} {l : List Nt} {j : Nat} (hj : j < l.length) : ranN p x1 x2 (l.take (j + 1)) = if (l[j].p == p && isRan x1 x2 l[j]) = true then ranN p x1 x2 (l.take j) + 1 else ranN p x1 x2 (l.take j) := by
  unfold ranN
  rw [flt_next hj]
  by_cases h : l[j].p = p
  · rw [if_pos h, List.filter_append]
    by_cases h2 : isRan x1 x2 l[j] = true
    · simp [h, h2]
    · simp [h, h2]
  · rw [if_neg h]
    simp [h]

end Ir
end Go.Proofs.YtmnolnoeibhjgaaGreat
