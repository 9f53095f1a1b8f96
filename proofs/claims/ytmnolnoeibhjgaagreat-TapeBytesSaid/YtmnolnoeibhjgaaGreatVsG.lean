/-
  Rows that grow, in any heap.
-/
import Derived.Test.YtmnolnoeibhjgaaGreatVJdC
set_option maxRecDepth 100000
set_option linter.unusedSimpArgs false
set_option linter.unusedVariables false
namespace Go.Proofs.YtmnolnoeibhjgaaGreat
open Go Ads
namespace Ads
theorem Fr.wk {h h' : Heap} {bs cs : List Nat} (f : Fr h h' bs) (hs : ∀ b ∈ bs, b ∈ cs) : Fr h h' cs := ⟨f.next, fun c hc hn => f.keep c hc (fun hb => hn (hs c hb))⟩
/-- A copy of a row of any length behind nothing. -/
theorem app_nilsG {s bytes n : Nat} {h : Heap} {x : AV} {cs : List AV} (hs : srcV s h x = some (n, cs)) (hf : flatL cs = true) (hn : n * bytes ≤ 140737488355328) (hm : n ≤ 140737488355328) :
    eV (.append s bytes) [.nils, x] h = some (if n = 0 then (.nils, h) else (.sl h.next 0 n n true, h.new (.cells cs true s))) := by
  have b2 : Nat.ble (n * bytes) 140737488355328 = true := Nat.ble_eq_true_of_le hn
  have b3 : Nat.ble n 9223372036854775807 = true := Nat.ble_eq_true_of_le (by omega)
  simp only [eV, l2, hs]
  show cond (flatL cs) _ _ = _
  rw [hf, cond_true]
  cases n with
  | zero => rfl
  | succ n =>
    rw [show Nat.beq (n + 1) 0 = false from rfl, cond_false, b2, b3, Bool.and_self, cond_true, if_neg (by omega)]
theorem flatL_one {x : AV} {l : List AV} : flatL (x :: l) = (x.flat && flatL l) := by
  show cond x.flat (flatL l) false = _
  cases x.flat <;> rfl

/-- A row that was made behind the first blocks. -/
def GR (s : Nat) (lo : Nat) (h : Heap) (v : AV) (l : List AV) : Prop := (l = [] ∧ v = .nils) ∨ l ≠ [] ∧ ∃ b, lo ≤ b ∧ b < h.next ∧ v = .sl b 0 l.length l.length true ∧ h.get b = some (.cells (flatCells l) true s)
theorem GR.nil {s lo : Nat} {h : Heap} : GR s lo h .nils [] := .inl ⟨rfl, rfl⟩
theorem GR.keep {s lo : Nat} {h h' : Heap} {v : AV} {M : List AV} {T : List Nat} (hr : GR s lo h v M) (fr : Fr h h' T) (hT : ∀ c ∈ T, c < lo) : GR s lo h' v M := by
  rcases hr with hr | ⟨hne0, b, h1, h2, h3, h4⟩
  · exact .inl hr
  · exact .inr ⟨hne0, b, h1, Nat.lt_of_lt_of_le h2 fr.next, h3, by rw [fr.keep b h2 (fun hm => by have := hT b hm; omega)]; exact h4⟩
theorem GR.low {s lo lo' : Nat} {h : Heap} {v : AV} {M : List AV} (hr : GR s lo h v M) (hl : lo' ≤ lo) : GR s lo' h v M := by
  rcases hr with hr | ⟨hne0, b, h1, h2⟩
  · exact .inl hr
  · exact .inr ⟨hne0, b, Nat.le_trans hl h1, h2⟩
theorem GR.frz {s lo : Nat} {h : Heap} {v : AV} {M : List AV} (hr : GR s lo h v M) (hs : allSize s M = true) (hc : clL M = true) : ∃ bs : List Nat, Frz (· ∈ bs) h v (.fz (growK M.length) M) ∧ ∀ b ∈ bs, lo ≤ b := by
  rcases hr with ⟨rfl, rfl⟩ | ⟨hne0, b, h1, h2, rfl, h4⟩
  · exact ⟨[], .nils, by simp⟩
  · cases M with
    | nil => exact absurd rfl hne0
    | cons m M => exact ⟨[b], frz_open (by simp) h4 rfl hs rfl hc, by simpa using h1⟩
theorem GR.len {s lo : Nat} {h : Heap} {v : AV} {M : List AV} (hr : GR s lo h v M) : pV .lenS [v] = some (.int .i64 ((M.length : Nat) : Int)) := by
  rcases hr with ⟨rfl, rfl⟩ | ⟨hne0, b, h1, h2, rfl, h4⟩
  · rfl
  · rfl
theorem GR.app {s bytes lo : Nat} {h : Heap} {v : AV} {M : List AV} (hr : GR s lo h v M) (hlo : lo ≤ h.next) {x : AV} (hx : x.cells.length = s) (hf : flatL x.cells = true) (hs : allSize s M = true) (hl : (M.length + 1) * bytes ≤ 140737488355328) (hm : M.length + 1 ≤ 140737488355328) :
    ∃ v' g', eV (.append s bytes) [v, .sl h.next 0 1 1 false] (h.new (.cells x.cells true 0)) = some (v', g') ∧ GR s lo g' v' (M ++ [x]) ∧ h.next ≤ g'.next ∧ ∀ c, c < lo → g'.get c = h.get c := by
  have hsrc : srcV s (h.new (.cells x.cells true 0)) (.sl h.next 0 1 1 false) = some (1, x.cells) := src_nv get_new_same (by omega)
  have hfa : flatCells (M ++ [x]) = flatCells M ++ x.cells := by rw [flat_app]; simp [flatCells]
  rcases hr with ⟨h1, h2⟩ | ⟨hne0, b, h1, h2, h3, h4⟩
  · subst h1 h2
    have := app_nilsG (bytes := bytes) hsrc hf (by simpa using hl) (by omega)
    rw [if_neg (by omega)] at this
    refine ⟨_, _, this, .inr ⟨by simp, h.next + 1, by omega, Nat.lt_succ_self _, rfl, ?_⟩, by show h.next ≤ h.next + 1 + 1; omega, fun c hc => ?_⟩
    · rw [hfa]; exact get_new_same (h := h.new (.cells x.cells true 0))
    · exact (get_new_ne (h := h.new (.cells x.cells true 0)) (show c < h.next + 1 by omega)).trans (get_new_ne (by omega))
  · subst h3
    have hg : (h.new (.cells x.cells true 0)).get b = some (.cells (flatCells M) true s) := by rw [get_new_ne h2]; exact h4
    refine ⟨_, _, app_oneB hg (flat_size hs) hsrc hf hl hm, .inr ⟨by simp, h.next + 1, by omega, Nat.lt_succ_self _, by rw [List.length_append]; rfl, ?_⟩, by show h.next ≤ h.next + 1 + 1; omega, fun c hc => ?_⟩
    · have := get_new_same (h := (h.new (.cells x.cells true 0)).del b) (x := .cells (flatCells M ++ x.cells) true s)
      rw [show ((h.new (.cells x.cells true 0)).del b).next = h.next + 1 from rfl] at this
      rw [this, hfa]
    · have hne : c ≠ b := by omega
      exact (get_new_ne (h := (h.new (.cells x.cells true 0)).del b) (show c < h.next + 1 by omega)).trans ((get_del_ne2 hne).trans (get_new_ne (by omega)))
/-- A copy of a frozen row behind nothing. -/
theorem GR.copy {s bytes lo k : Nat} {h : Heap} {M : List AV} (hlo : lo ≤ h.next) (hs : allSize s M = true) (hf : flatL (flatCells M) = true) (hl : M.length * bytes ≤ 140737488355328) (hm : M.length ≤ 140737488355328) :
    ∃ v' g', eV (.append s bytes) [.nils, .fz k M] h = some (v', g') ∧ GR s lo g' v' M ∧ Fr h g' [] := by
  have := app_nilsG (bytes := bytes) (src_fz (k := k) (h := h) hs) hf hl hm
  by_cases hz : M.length = 0
  · rw [if_pos hz] at this
    exact ⟨_, _, this, .inl ⟨List.eq_nil_of_length_eq_zero hz, rfl⟩, Fr.refl _ _⟩
  · rw [if_neg hz] at this
    exact ⟨_, _, this, .inr ⟨fun h => hz (by rw [h]; rfl), h.next, hlo, Nat.lt_succ_self _, rfl, get_new_same⟩, (Fr.refl _ _).new⟩
end Ads
end Go.Proofs.YtmnolnoeibhjgaaGreat
