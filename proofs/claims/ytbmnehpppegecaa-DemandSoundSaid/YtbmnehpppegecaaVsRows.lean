/-
  Rows in blocks: filled from the front, grown by append.
-/
import Derived.Test.YtbmnehpppegecaaVsLoop
set_option maxRecDepth 100000
set_option linter.unusedSimpArgs false
set_option linter.unusedVariables false
namespace Go.Proofs.Ytbmnehpppegecaa
open Go Ads
namespace Ads

theorem rem_val {k : IntKind} (a b : Int) (hb : b ≠ 0) : pV (.bin .rem) [.int k a, .int k b] = some (.int k (a.tmod b)) := by
  simp [pV, pIF, l2, binF, dInt, isShift, binInt, hb]
theorem quo_val {k : IntKind} (a b : Int) (hb : b ≠ 0) : pV (.bin .quo) [.int k a, .int k b] = some (.int k (k.wrap (a.tdiv b))) := by
  simp [pV, pIF, l2, binF, dInt, isShift, binInt, hb]
theorem wrap_wrap (n : Int) : IntKind.i64.wrap (IntKind.i64.wrap n) = IntKind.i64.wrap n := by simp only [IntKind.wrap_i64]; omega
theorem wrap_nat {n : Nat} (h : n < 9223372036854775808) : IntKind.i64.wrap (n : Int) = n := IntWalk.i64_in _ (by omega)

theorem frz_open {P : Nat → Prop} {g : Heap} {b n s : Nat} {l vs : List AV} {wr : Bool} {es : Nat} (hb : P b) (hg : g.get b = some (.cells vs wr es)) (hv : vs = flatCells l) (hs : allSize s l = true) (hn : n = l.length) (hcl : clL l = true) :
    Frz P g (.sl b 0 n n true) (.fz 0 l) :=
  .row (s := s) hb hg hv hs hn (Nat.le_refl _) (by omega) (fun h => by omega) (fun h => by omega) hcl

theorem renAt_sl {p : Nat → Nat} {n : Nat} {e : Env} {i b o len cap : Nat} {op : Bool} {l : List (Nat × AV)} (h : Tr.get e i = some (.sl (p b) o len cap op)) (hb : b < n) (hl : RenAt p n e l) : RenAt p n e ((i, .sl b o len cap op) :: l) := ⟨⟨_, h, .sl hb⟩, hl⟩

section
variable {fs : Nat → Option AFunc} {ms : Nat → String → Option Nat} {B : Nat} {rd : Bool}
/-- A function's start, with a stop ahead of its body. -/
theorem vd_begin {f : Nat} {af : AFunc} {args : List AV} {h : Heap} {Q : AV → Heap → Prop} (hf : fs f = some af) (hlen : args.length ≤ af.ntmps)
    (hw : startF af.ntmps args fun e => VC fs ms h.next false af.body e h (endV af.results Q)) : VD fs ms f args h Q := by
  rw [startF_eq] at hw
  exact vd_body hf hlen hw
/-- Two pieces of code, with a stop between them. -/
theorem vc_seq {a b : AC} {e : Env} {h : Heap} {Q : AX → Env → Heap → Prop} (z : Bool)
    (hw : vpC fs ms B rd z a e h fun x e1 h1 => match x with | .normal => VC fs ms B rd b e1 h1 Q | x => Q x e1 h1) : VC fs ms B rd (.seq a b) e h Q := by
  obtain ⟨x, e1, h1, hb, hk⟩ := vpC_sound hw
  cases x with
  | normal =>
    obtain ⟨x2, e2, h2, hb2, hk2⟩ := hk
    exact ⟨_, _, _, .seqN hb hb2, hk2⟩
  | exit i => exact ⟨_, _, _, .seqX hb rfl, hk⟩
  | ret => exact ⟨_, _, _, .seqX hb rfl, hk⟩
  | panic v => exact ⟨_, _, _, .seqX hb rfl, hk⟩
end

theorem brt {c : Bool} {A B : Prop} (hc : c = true) (h : c = true → A) : brn c A B := br h (fun h2 => by rw [hc] at h2; exact absurd h2 (by decide))
theorem brf {c : Bool} {A B : Prop} (hc : c = false) (h : c = false → B) : brn c A B := br (fun h2 => by rw [hc] at h2; exact absurd h2 (by decide)) h
theorem brT {c : Bool} {A B : Prop} (hc : c = true) (h : A) : brn c A B := br (fun _ => h) (fun h2 => by rw [hc] at h2; exact absurd h2 (by decide))
theorem brF {c : Bool} {A B : Prop} (hc : c = false) (h : B) : brn c A B := br (fun h2 => by rw [hc] at h2; exact absurd h2 (by decide)) (fun _ => h)

/- A row that grows by append, one at a time. -/
def growV : Nat → AV
  | 0 => .nils
  | j + 1 => .sl 0 0 (j + 1) (j + 1) true
def growH (s : Nat) (L : List AV) : Nat → Heap
  | 0 => ⟨0, .nil⟩
  | j + 1 => ⟨1, .node .nil (some (.cells (flatCells (L.take (j + 1))) true s)) .nil⟩
def growK : Nat → Nat
  | 0 => 3
  | _ + 1 => 0

theorem grow_frz {P : Nat → Prop} {s : Nat} {L : List AV} (hs : allSize s L = true) (hc : clL L = true) (hP : P 0) : ∀ n, n = L.length → Frz P (growH s L n) (growV n) (.fz (growK n) L)
  | 0, h => by
    have : L = [] := List.length_eq_zero_iff.1 h.symm
    subst this
    exact .nils
  | n + 1, h => by
    refine frz_open (b := 0) (s := s) (wr := true) (es := s) (vs := flatCells L) hP ?_ rfl hs h hc
    show (growH s L (n + 1)).get 0 = _
    simp only [growH, h, List.take_length]
    rfl

theorem renB_cl {p : Nat → Nat} {n : Nat} {M vs : List AV} {wr : Bool} {es : Nat} (h : vs = M) (hc : clL M = true) : RenB p n (.cells M wr es) (.cells vs wr es) := by
  subst h
  refine .cells rfl fun i x y hx hy => ?_
  rw [hx] at hy
  cases hy
  exact .cl (clL_get hc hx)
theorem renB_ints {p : Nat → Nat} {n : Nat} {M : List Int} {vs : List AV} {wr : Bool} {es : Nat} (h : vs = ints M) : RenB p n (.cells (ints M) wr es) (.cells vs wr es) := renB_cl h (cl_ints M)

/-- One more in a row of numbers that has been made by append. -/
theorem app_open {nx : Nat} {tr : Tr Blk} {b n : Nat} {vs : List AV} {x : AV} {m : Int} (hg : Heap.get ⟨nx, tr⟩ b = some (.cells vs true 1)) (hv : vs.length = n) (hn : n ≤ 1048576) (hs : srcV 1 ⟨nx, tr⟩ x = some (1, [.int .i64 m])) :
    eV (.append 1 8) [.sl b 0 n n true, x] ⟨nx, tr⟩ = some (.sl nx 0 (n + 1) (n + 1) true, ⟨nx + 1, Tr.set (Heap.del ⟨nx, tr⟩ b).m nx (.cells (vs ++ [.int .i64 m]) true 1)⟩) := by
  subst hv
  have hl : Heap.loadN ⟨nx, tr⟩ b 0 (vs.length * 1) = some vs := by
    rw [loadN_some hg (by simp)]
    simp
  have b1 : Nat.ble (vs.length + 1) vs.length = false := by
    cases hb : Nat.ble (vs.length + 1) vs.length with
    | false => rfl
    | true => have := Nat.le_of_ble_eq_true hb; omega
  have b2 : Nat.ble ((vs.length + 1) * 8) 140737488355328 = true := Nat.ble_eq_true_of_le (by omega)
  have b3 : Nat.ble (vs.length + 1) 9223372036854775807 = true := Nat.ble_eq_true_of_le (by omega)
  have b4 : Nat.beq 1 0 = false := rfl
  have b5 : Nat.beq vs.length (0 + vs.length * 1) = true := by rw [Nat.zero_add, Nat.mul_one]; exact Nat.beq_refl _
  have b6 : Nat.beq vs.length vs.length = true := Nat.beq_refl _
  have b7 : Nat.beq 1 1 = true := rfl
  simp only [eV, l2, hs]
  show cond (flatL [AV.int .i64 m]) _ _ = _
  rw [show flatL [AV.int .i64 m] = true from rfl, cond_true, b4, Bool.false_and, cond_false, b1, cond_false, b2, b3, Bool.and_self, cond_true, hg, hl]
  simp only [b5, b6, b7, Bool.and_self, cond_true]
  rfl

theorem app_nils {nx : Nat} {tr : Tr Blk} {x : AV} {m : Int} (hs : srcV 1 ⟨nx, tr⟩ x = some (1, [.int .i64 m])) :
    eV (.append 1 8) [.nils, x] ⟨nx, tr⟩ = some (.sl nx 0 1 1 true, ⟨nx + 1, Tr.set tr nx (.cells [.int .i64 m] true 1)⟩) := by
  simp only [eV, l2, hs]
  rfl

theorem idx_sl {b n cap j : Nat} {op : Bool} (h : j < n) : pV (.iaddrS 1) [.sl b 0 n cap op, .int .i64 (j : Nat)] = some (.ptr b j) := by
  have b1 : Nat.ble (j + 1) n = true := Nat.ble_eq_true_of_le h
  simp only [pV, l2, dNat]
  show cond (Nat.ble (j + 1) n) (some (AV.ptr b (0 + j * 1))) none = _
  rw [b1, cond_true, Nat.zero_add, Nat.mul_one]

/-- One more in a row of structs that has been made by append. -/
theorem app_openS {s bytes nx : Nat} {tr : Tr Blk} {b n : Nat} {vs cs : List AV} {x : AV} (hg : Heap.get ⟨nx, tr⟩ b = some (.cells vs true s)) (hv : vs.length = n * s) (hn : n ≤ 1048576) (hb : bytes ≤ 1048576)
    (hs : srcV s ⟨nx, tr⟩ x = some (1, cs)) (hf : flatL cs = true) :
    eV (.append s bytes) [.sl b 0 n n true, x] ⟨nx, tr⟩ = some (.sl nx 0 (n + 1) (n + 1) true, ⟨nx + 1, Tr.set (Heap.del ⟨nx, tr⟩ b).m nx (.cells (vs ++ cs) true s)⟩) := by
  have hl : Heap.loadN ⟨nx, tr⟩ b 0 (n * s) = some vs := by
    rw [loadN_some hg (by omega), List.drop_zero, ← hv, List.take_length]
  have b1 : Nat.ble (n + 1) n = false := by
    cases hb : Nat.ble (n + 1) n with
    | false => rfl
    | true => have := Nat.le_of_ble_eq_true hb; omega
  have hm : (n + 1) * bytes ≤ 1048577 * 1048576 := Nat.mul_le_mul (by omega) hb
  have b2 : Nat.ble ((n + 1) * bytes) 140737488355328 = true := Nat.ble_eq_true_of_le (by omega)
  have b3 : Nat.ble (n + 1) 9223372036854775807 = true := Nat.ble_eq_true_of_le (by omega)
  have b4 : Nat.beq 1 0 = false := rfl
  have b5 : Nat.beq vs.length (0 + n * s) = true := by rw [Nat.zero_add, hv]; exact Nat.beq_refl _
  have b6 : Nat.beq n n = true := Nat.beq_refl _
  have b7 : Nat.beq s s = true := Nat.beq_refl _
  simp only [eV, l2, hs]
  show cond (flatL cs) _ _ = _
  rw [hf, cond_true, b4, Bool.false_and, cond_false, b1, cond_false, b2, b3, Bool.and_self, cond_true, hg, hl]
  simp only [b5, b6, b7, Bool.and_self, cond_true]
  rfl

theorem app_nilsS {s bytes nx : Nat} {tr : Tr Blk} {x : AV} {cs : List AV} (hb : bytes ≤ 1048576) (hs : srcV s ⟨nx, tr⟩ x = some (1, cs)) (hf : flatL cs = true) :
    eV (.append s bytes) [.nils, x] ⟨nx, tr⟩ = some (.sl nx 0 1 1 true, ⟨nx + 1, Tr.set tr nx (.cells cs true s)⟩) := by
  have b2 : Nat.ble (1 * bytes) 140737488355328 = true := Nat.ble_eq_true_of_le (by omega)
  simp only [eV, l2, hs]
  show cond (flatL cs) _ _ = _
  rw [hf, cond_true]
  show cond (Nat.ble (1 * bytes) 140737488355328 && true) _ _ = _
  rw [b2]
  rfl

/- A row of numbers that is filled from the front. -/
theorem zerosN_int : ∀ n : Nat, zerosN [.int .i64 0] n = ints (List.replicate n 0) := by
  intro n
  induction n with
  | zero => rfl
  | succ n ih =>
    show _ = AV.int .i64 0 :: ints (List.replicate n 0)
    rw [← ih]
    rfl

theorem mk_ints {n : Nat} (hn : n ≤ 1048576) : aI (.mkslice [.int .i64 0] 1 8) [.int .i64 (n : Nat), .int .i64 (n : Nat)] = some (.cells (ints (List.replicate n 0)) true 0, fun b => .sl b 0 n n false) := by
  have b1 : Nat.ble n n = true := Nat.ble_eq_true_of_le (Nat.le_refl _)
  have b2 : Nat.ble (8 * n) 140737488355328 = true := Nat.ble_eq_true_of_le (by omega)
  have b3 : Nat.ble n 9223372036854775807 = true := Nat.ble_eq_true_of_le (by omega)
  show cond (Nat.ble n n && Nat.ble (8 * n) 140737488355328 && Nat.ble n 9223372036854775807) (some (Blk.cells (zerosN [AV.int .i64 0] n) true 0, fun b => AV.sl b 0 n n false)) none = _
  rw [b1, b2, b3, zerosN_int]
  rfl

def fillR (ts : List Int) (j : Nat) : List Int := ts.take j ++ List.replicate (ts.length - j) 0
theorem len_fill (ts : List Int) {j : Nat} (h : j ≤ ts.length) : (fillR ts j).length = ts.length := by simp [fillR]; omega
theorem fill_end (ts : List Int) : fillR ts ts.length = ts := by simp [fillR]
theorem fill_zero (ts : List Int) : fillR ts 0 = List.replicate ts.length 0 := by simp [fillR]

theorem splice_at {α : Type} : ∀ (l : List α) (o : Nat) (x : α), o < l.length → Heap.splice l o [x] = l.set o x
  | [], o, x, h => by simp at h
  | y :: l, 0, x, h => by
    show x :: Heap.splice l 0 [] = _
    have : Heap.splice l 0 [] = l := by cases l <;> rfl
    rw [this]; rfl
  | y :: l, o + 1, x, h => by
    show y :: Heap.splice l o [x] = _
    rw [splice_at l o x (by simpa using h)]; rfl

theorem fill_next (ts : List Int) {j : Nat} (h : j < ts.length) : (fillR ts j).set j ts[j] = fillR ts (j + 1) := by
  apply List.ext_getElem
  · rw [List.length_set, len_fill ts (by omega), len_fill ts (by omega)]
  · intro i h1 h2
    rw [List.getElem_set]
    simp only [fillR, List.getElem_append, List.length_take, List.getElem_take, List.getElem_replicate]
    by_cases e : j = i
    · subst e
      simp only [if_true]
      rw [dif_pos (by omega)]
    · rw [if_neg e]
      by_cases e2 : i < j
      · rw [dif_pos (by omega), dif_pos (by omega)]
      · rw [dif_neg (by omega), dif_neg (by omega)]

theorem fill_put (ts : List Int) {j : Nat} (h : j < ts.length) {x : Int} (hx : x = ts[j]) : Heap.splice (ints (fillR ts j)) j [.int .i64 x] = ints (fillR ts (j + 1)) := by
  subst hx
  rw [splice_at _ _ _ (by rw [len_ints, len_fill ts (by omega)]; exact h), ← fill_next ts h]
  simp [ints, List.map_set]
end Ads
end Go.Proofs.Ytbmnehpppegecaa
