/-
  Rows in blocks: filled from the front, grown by append.
-/
import Derived.Test.YtlndlbngfgaoeaaVsLoop
import Derived.KernelRfl
set_option maxRecDepth 100000
set_option linter.unusedSimpArgs false
set_option linter.unusedVariables false
namespace Go.Proofs.Ytlndlbngfgaoeaa
open Go Ads
namespace Ads

theorem rem_val {k : IntKind} (a b : Int) (hb : b ≠ 0) : pV (.bin .rem) [.int k a, .int k b] = some (.int k (a.tmod b)) := by
 simp [pV, pIF, l2, binF, dInt, isShift, binInt, hb]
theorem quo_val {k : IntKind} (a b : Int) (hb : b ≠ 0) : pV (.bin .quo) [.int k a, .int k b] = some (.int k (k.wrap (a.tdiv b))) := by
 simp [pV, pIF, l2, binF, dInt, isShift, binInt, hb]
theorem wrap_wrap (n : Int) : IntKind.i64.wrap (IntKind.i64.wrap n) = IntKind.i64.wrap n := by simp only [IntKind.wrap_i64]; omega
theorem wrap_nat {n : Nat} (h : n < 9223372036854775808) : IntKind.i64.wrap (n : Int) = n := IntWalk.i64_in _ (by omega)

theorem frz_open {P : Nat → Prop} {g : Heap} {b n s : Nat} {l vs : List AV} {wr : Bool} {es : Nat} (hb : P b) (hg : g.get b = some (.cells vs wr es)) (hv : vs = flatCells l) (hs : allSize s l = true) (hn : n = l.length) (hcl : clL l = true) :
  Frz P g (.sl b 0 n n true) (.fz 0 l) :=
 .row (s := s) hb hg hv hs hn (Nat.le_refl _) (by omega) (fun h => by omega) (fun h => by omega) hcl

theorem renAt_sl {p : Nat → Nat} {n : Nat} {e : Env} {i b o len cap : Nat} {op : Bool} {l : List (Nat × AV)} (h : Tr.get e i = some (.sl (p b) o len cap op)) (hb : b < n) (hl : RenAt p n e l) : RenAt p n e ((i, .sl b o len cap op) :: l) := ⟨⟨_, h, .sl hb⟩, hl⟩

section
variable {fs : Nat → Option AFunc} {ms : Nat → String → Option Nat} {B : Nat} {rd : Bool}
theorem vd_begin {f : Nat} {af : AFunc} {args : List AV} {h : Heap} {Q : AV → Heap → Prop} (hf : fs f = some af) (hlen : args.length ≤ af.ntmps)
  (hw : startF af.ntmps args fun e => VC fs ms h.next false af.body e h (endV af.results Q)) : VD fs ms f args h Q := by
 rw [startF_eq] at hw
 exact vd_body hf hlen hw
theorem vc_seq {a b : AC} {e : Env} {h : Heap} {Q : AX → Env → Heap → Prop} (z : Bool)
  (hw : vpC fs ms B rd z a e h fun x e1 h1 => match x with | .normal => VC fs ms B rd b e1 h1 Q | x => Q x e1 h1) : VC fs ms B rd (.seq a b) e h Q := by
 obtain ⟨x, e1, h1, hb, hk⟩ := vpC_sound hw
 cases x with
 | normal =>
  obtain ⟨x2, e2, h2, hb2, hk2⟩ := hk
  exact ⟨_, _, _, .seqN hb hb2, hk2⟩
 | exit i => exact ⟨_, _, _, .seqX hb rfl, hk⟩
 | ret => exact ⟨_, _, _, .seqX hb rfl, hk⟩
 | panic v => exact ⟨_, _, _, .seqX hb rfl, hk⟩
end

theorem gc_lit {B : Nat} {e : Env} {h H : Heap} {d n : Nat} {l : List (Nat × AV)} {m : List (Nat × Blk)} (hH : H = hk n m) (p : Nat → Nat) (hl : RenAt p n e l) (hm : BlkAt p n h m)
  (hp : ∀ b c, b ∈ m.map (·.1) → c ∈ m.map (·.1) → p b = p c → b = c) (hfix : ∀ b, b < B → p b = b) (hn : B ≤ n) : GC B p e h (ek d l) H := by
 subst hH
 exact gc_hk p hl hm hp hfix hn
theorem vc_lit {fs : Nat → Option AFunc} {ms : Nat → String → Option Nat} {B : Nat} {rd : Bool} {c : AC} {e : Env} {h H : Heap} {Q : AX → Env → Heap → Prop} {d n : Nat} {l : List (Nat × AV)} {m : List (Nat × Blk)} (hH : H = hk n m) (p : Nat → Nat) (hl : RenAt p n e l) (hm : BlkAt p n h m)
  (hp : ∀ b c, b ∈ m.map (·.1) → c ∈ m.map (·.1) → p b = p c → b = c) (hfix : ∀ b, b < B → p b = b) (hn : B ≤ n) (hw : VC fs ms B rd c (ek d l) H Q) : VC fs ms B rd c e h Q := by
 subst hH
 exact vc_to d l n m p hl hm hp hfix hn hw
theorem hk_one (x : Blk) : (⟨1, .node .nil (some x) .nil⟩ : Heap) = hk 1 [(0, x)] := rfl
theorem hk_two (x y : Blk) : (⟨2, .node (.node .nil (some y) .nil) (some x) .nil⟩ : Heap) = hk 2 [(0, x), (1, y)] := by kernel_rfl
theorem hk_three (x y z : Blk) : (⟨3, .node (.node .nil (some y) .nil) (some x) (.node .nil (some z) .nil)⟩ : Heap) = hk 3 [(0, x), (1, y), (2, z)] := by kernel_rfl

/- Loops over what a function yields. -/
theorem vc_range {fs : Nat → Option AFunc} {ms : Nat → String → Option Nat} {B : Nat} {g : Rand} {ps : List Nat} {a b : AC} {e : Env} {h : Heap} {f : Nat} {first capt : List AV} {Q : AX → Env → Heap → Prop} (hao : argsOk e [g] = true) (hev : Env.ev e g = .func (.func f) first capt)
  (hw : VD fs ms f (first ++ (.yield h.next :: capt)) (h.new (.loop 0 none e ps a b)) fun _ h2 => ∃ x st, h2.get h.next = some (.loop st (pendOf x) e ps a b) ∧ st ≠ 1 ∧ (∀ v, x ≠ .panic v) ∧ Q x e (h2.set h.next (.loop 3 (pendOf x) e ps a b))) :
  VC fs ms B false (.rangeFunc g ps a b) e h Q := by
 obtain ⟨v, h2, hb, x, st, h3, h4, h5, h6⟩ := hw
 exact ⟨x, e, _, .rangeFunc hao hev (hb B) h3 h4 h5, h6⟩
theorem vd_yield {fs : Nat → Option AFunc} {ms : Nat → String → Option Nat} {L : Nat} {args : List AV} {h : Heap} {pend : Option AX} {e : Env} {ps : List Nat} {a b : AC} {k : AV → Heap → Prop} (hg : h.get L = some (.loop 0 pend e ps a b)) (hlen : args.length = ps.length)
  (hw : VC fs ms h.next true a (putAll ps args e) h fun x e2 h2 => x = .normal ∧ ∃ pend2, h2.get L = some (.loop 0 pend2 e ps a b) ∧
   VC fs ms h.next true b e2 (h2.set L (.loop 1 pend2 e ps a b)) fun x e4 h4 => (∀ v, x ≠ .panic v) ∧ (∃ st4 pend4, h4.get L = some (.loop st4 pend4 e ps a b)) ∧ k (.bool x.normal?) (h4.set L (.loop (bif x.normal? then 0 else 2) (pendOf x) e ps a b))) :
  ∃ v h1, (∀ B, VS fs ms B (.callv (.yield L) args h) (.val v h1)) ∧ k v h1 := by
 obtain ⟨x, e2, h2, hb, rfl, pend2, h3, y, e4, h4, hb2, h5, ⟨st4, pend4, h6⟩, h7⟩ := hw
 exact ⟨_, _, fun B => .yield hg hlen hb h3 hb2 h5 h6, h7⟩
theorem renB_loop {n d st : Nat} {pend : Option AX} {l : List (Nat × AV)} {ps : List Nat} {a b : AC} (h : ∀ x, x ∈ l → Ren id n x.2 x.2) : RenB id n (.loop st pend (ek d l) ps a b) (.loop st pend (ek d l) ps a b) := by
 refine .loop fun i v hv => ⟨v, hv, ?_⟩
 have h1 := sk_low d _ i v hv
 have : ∀ {l : List (Nat × AV)}, (∀ x, x ∈ l → Ren id n x.2 x.2) → kn l (fun _ => none) i = some v → Ren id n v v := by
  intro l
  induction l with
  | nil => intro _ h; simp [kn] at h
  | cons p l ih =>
   intro h h2
   obtain ⟨j, w⟩ := p
   simp only [kn] at h2
   cases hb : Nat.beq i j with
   | false => rw [hb] at h2; exact ih (fun x hx => h x (List.mem_cons_of_mem _ hx)) h2
   | true => rw [hb] at h2; simp only [cond_true, Option.some.injEq] at h2; subst h2; exact h _ List.mem_cons_self
 exact this h h1

theorem brt {c : Bool} {A B : Prop} (hc : c = true) (h : c = true → A) : brn c A B := br h (fun h2 => by rw [hc] at h2; exact absurd h2 (by decide))
theorem brf {c : Bool} {A B : Prop} (hc : c = false) (h : c = false → B) : brn c A B := br (fun h2 => by rw [hc] at h2; exact absurd h2 (by decide)) h
theorem brT {c : Bool} {A B : Prop} (hc : c = true) (h : A) : brn c A B := br (fun _ => h) (fun h2 => by rw [hc] at h2; exact absurd h2 (by decide))
theorem brF {c : Bool} {A B : Prop} (hc : c = false) (h : B) : brn c A B := br (fun h2 => by rw [hc] at h2; exact absurd h2 (by decide)) (fun _ => h)

theorem renAt_ptr {p : Nat → Nat} {n : Nat} {e : Env} {i b o : Nat} {l : List (Nat × AV)} (h : Tr.get e i = some (.ptr (p b) o)) (hb : b < n) (hl : RenAt p n e l) : RenAt p n e ((i, .ptr b o) :: l) := ⟨⟨_, h, .ptr hb⟩, hl⟩
theorem renAt_yield {p : Nat → Nat} {n : Nat} {e : Env} {i b : Nat} {l : List (Nat × AV)} (h : Tr.get e i = some (.yield (p b))) (hb : b < n) (hl : RenAt p n e l) : RenAt p n e ((i, .yield b) :: l) := ⟨⟨_, h, .yield hb⟩, hl⟩

/- A row that grows by append, one at a time. -/
def growV : Nat → AV
 | 0 => .nils
 | j + 1 => .sl 0 0 (j + 1) (j + 1) true
def growH (s : Nat) (L : List AV) : Nat → Heap
 | 0 => ⟨0, .nil⟩
 | j + 1 => ⟨1, .node .nil (some (.cells (flatCells (L.take (j + 1))) true s)) .nil⟩
def growK : Nat → Nat
 | 0 => 3
 | _ + 1 => 0

theorem grow_frz {P : Nat → Prop} {s : Nat} {L : List AV} (hs : allSize s L = true) (hc : clL L = true) (hP : P 0) : ∀ n, n = L.length → Frz P (growH s L n) (growV n) (.fz (growK n) L)
 | 0, h => by
  have : L = [] := List.length_eq_zero_iff.1 h.symm
  subst this
  exact .nils
 | n + 1, h => by
  refine frz_open (b := 0) (s := s) (wr := true) (es := s) (vs := flatCells L) hP ?_ rfl hs h hc
  show (growH s L (n + 1)).get 0 = _
  simp only [growH, h, List.take_length]
  rfl

def growI (L : List Int) : Nat → Heap
 | 0 => ⟨0, .nil⟩
 | j + 1 => ⟨1, .node .nil (some (.cells (ints (L.take (j + 1))) true 1)) .nil⟩
theorem growI_frz {P : Nat → Prop} {L : List Int} (hP : P 0) : ∀ n, n = L.length → Frz P (growI L n) (growV n) (.fz (growK n) (ints L))
 | 0, h => by
  have : L = [] := List.length_eq_zero_iff.1 h.symm
  subst this
  exact .nils
 | n + 1, h => by
  refine frz_open (b := 0) (s := 1) (wr := true) (es := 1) (vs := ints L) hP ?_ (flat_ints L).symm (size_ints L) (by rw [len_ints]; exact h) (cl_ints L)
  show (growI L (n + 1)).get 0 = _
  simp only [growI, h, List.take_length]
  rfl

theorem renB_cl {p : Nat → Nat} {n : Nat} {M vs : List AV} {wr : Bool} {es : Nat} (h : vs = M) (hc : clL M = true) : RenB p n (.cells M wr es) (.cells vs wr es) := by
 subst h
 refine .cells rfl fun i x y hx hy => ?_
 rw [hx] at hy
 cases hy
 exact .cl (clL_get hc hx)
theorem renB_ints {p : Nat → Nat} {n : Nat} {M : List Int} {vs : List AV} {wr : Bool} {es : Nat} (h : vs = ints M) : RenB p n (.cells (ints M) wr es) (.cells vs wr es) := renB_cl h (cl_ints M)

theorem app_open {nx : Nat} {tr : Tr Blk} {b n : Nat} {vs : List AV} {x : AV} {m : Int} (hg : Heap.get ⟨nx, tr⟩ b = some (.cells vs true 1)) (hv : vs.length = n) (hn : n ≤ 1048576) (hs : srcV 1 ⟨nx, tr⟩ x = some (1, [.int .i64 m])) :
  eV (.append 1 8) [.sl b 0 n n true, x] ⟨nx, tr⟩ = some (.sl nx 0 (n + 1) (n + 1) true, ⟨nx + 1, Tr.set (Heap.del ⟨nx, tr⟩ b).m nx (.cells (vs ++ [.int .i64 m]) true 1)⟩) := by
 subst hv
 have hl : Heap.loadN ⟨nx, tr⟩ b 0 (vs.length * 1) = some vs := by
  rw [loadN_some hg (by simp)]
  simp
 have b1 : Nat.ble (vs.length + 1) vs.length = false := by
  cases hb : Nat.ble (vs.length + 1) vs.length with
  | false => rfl
  | true => have := Nat.le_of_ble_eq_true hb; omega
 have b2 : Nat.ble ((vs.length + 1) * 8) 140737488355328 = true := Nat.ble_eq_true_of_le (by omega)
 have b3 : Nat.ble (vs.length + 1) 9223372036854775807 = true := Nat.ble_eq_true_of_le (by omega)
 have b4 : Nat.beq 1 0 = false := rfl
 have b5 : Nat.beq vs.length (0 + vs.length * 1) = true := by rw [Nat.zero_add, Nat.mul_one]; exact Nat.beq_refl _
 have b6 : Nat.beq vs.length vs.length = true := Nat.beq_refl _
 have b7 : Nat.beq 1 1 = true := rfl
 simp only [eV, l2, hs]
 show cond (flatL [AV.int .i64 m]) _ _ = _
 rw [show flatL [AV.int .i64 m] = true from rfl, cond_true, b4, Bool.false_and, cond_false, b1, cond_false, b2, b3, Bool.and_self, cond_true, hg, hl]
 simp only [b5, b6, b7, Bool.and_self, cond_true]
 rfl

theorem app_nils {nx : Nat} {tr : Tr Blk} {x : AV} {m : Int} (hs : srcV 1 ⟨nx, tr⟩ x = some (1, [.int .i64 m])) :
  eV (.append 1 8) [.nils, x] ⟨nx, tr⟩ = some (.sl nx 0 1 1 true, ⟨nx + 1, Tr.set tr nx (.cells [.int .i64 m] true 1)⟩) := by
 simp only [eV, l2, hs]
 rfl

theorem idx_sl {b n cap j : Nat} {op : Bool} (h : j < n) : pV (.iaddrS 1) [.sl b 0 n cap op, .int .i64 (j : Nat)] = some (.ptr b j) := by
 have b1 : Nat.ble (j + 1) n = true := Nat.ble_eq_true_of_le h
 simp only [pV, l2, dNat]
 show cond (Nat.ble (j + 1) n) (some (AV.ptr b (0 + j * 1))) none = _
 rw [b1, cond_true, Nat.zero_add, Nat.mul_one]

theorem app_openS {s bytes nx : Nat} {tr : Tr Blk} {b n : Nat} {vs cs : List AV} {x : AV} (hg : Heap.get ⟨nx, tr⟩ b = some (.cells vs true s)) (hv : vs.length = n * s) (hn : n ≤ 1048576) (hb : bytes ≤ 1048576)
  (hs : srcV s ⟨nx, tr⟩ x = some (1, cs)) (hf : flatL cs = true) :
  eV (.append s bytes) [.sl b 0 n n true, x] ⟨nx, tr⟩ = some (.sl nx 0 (n + 1) (n + 1) true, ⟨nx + 1, Tr.set (Heap.del ⟨nx, tr⟩ b).m nx (.cells (vs ++ cs) true s)⟩) := by
 have hl : Heap.loadN ⟨nx, tr⟩ b 0 (n * s) = some vs := by
  rw [loadN_some hg (by omega), List.drop_zero, ← hv, List.take_length]
 have b1 : Nat.ble (n + 1) n = false := by
  cases hb : Nat.ble (n + 1) n with
  | false => rfl
  | true => have := Nat.le_of_ble_eq_true hb; omega
 have hm : (n + 1) * bytes ≤ 1048577 * 1048576 := Nat.mul_le_mul (by omega) hb
 have b2 : Nat.ble ((n + 1) * bytes) 140737488355328 = true := Nat.ble_eq_true_of_le (by omega)
 have b3 : Nat.ble (n + 1) 9223372036854775807 = true := Nat.ble_eq_true_of_le (by omega)
 have b4 : Nat.beq 1 0 = false := rfl
 have b5 : Nat.beq vs.length (0 + n * s) = true := by rw [Nat.zero_add, hv]; exact Nat.beq_refl _
 have b6 : Nat.beq n n = true := Nat.beq_refl _
 have b7 : Nat.beq s s = true := Nat.beq_refl _
 simp only [eV, l2, hs]
 show cond (flatL cs) _ _ = _
 rw [hf, cond_true, b4, Bool.false_and, cond_false, b1, cond_false, b2, b3, Bool.and_self, cond_true, hg, hl]
 simp only [b5, b6, b7, Bool.and_self, cond_true]
 rfl

theorem app_nilsS {s bytes nx : Nat} {tr : Tr Blk} {x : AV} {cs : List AV} (hb : bytes ≤ 1048576) (hs : srcV s ⟨nx, tr⟩ x = some (1, cs)) (hf : flatL cs = true) :
  eV (.append s bytes) [.nils, x] ⟨nx, tr⟩ = some (.sl nx 0 1 1 true, ⟨nx + 1, Tr.set tr nx (.cells cs true s)⟩) := by
 have b2 : Nat.ble (1 * bytes) 140737488355328 = true := Nat.ble_eq_true_of_le (by omega)
 simp only [eV, l2, hs]
 show cond (flatL cs) _ _ = _
 rw [hf, cond_true]
 show cond (Nat.ble (1 * bytes) 140737488355328 && true) _ _ = _
 rw [b2]
 rfl

/- A row of numbers that is filled from the front. -/
theorem zerosN_int : ∀ n : Nat, zerosN [.int .i64 0] n = ints (List.replicate n 0) := by
 intro n
 induction n with
 | zero => rfl
 | succ n ih =>
  show _ = AV.int .i64 0 :: ints (List.replicate n 0)
  rw [← ih]
  rfl

theorem mk_ints {n : Nat} (hn : n ≤ 17592186044416) : aI (.mkslice [.int .i64 0] 1 8) [.int .i64 (n : Nat), .int .i64 (n : Nat)] = some (.cells (ints (List.replicate n 0)) true 0, fun b => .sl b 0 n n false) := by
 have b1 : Nat.ble n n = true := Nat.ble_eq_true_of_le (Nat.le_refl _)
 have b2 : Nat.ble (8 * n) 140737488355328 = true := Nat.ble_eq_true_of_le (by omega)
 have b3 : Nat.ble n 9223372036854775807 = true := Nat.ble_eq_true_of_le (by omega)
 show cond (Nat.ble n n && Nat.ble (8 * n) 140737488355328 && Nat.ble n 9223372036854775807) (some (Blk.cells (zerosN [AV.int .i64 0] n) true 0, fun b => AV.sl b 0 n n false)) none = _
 rw [b1, b2, b3, zerosN_int]
 rfl

def fillR (ts : List Int) (j : Nat) : List Int := ts.take j ++ List.replicate (ts.length - j) 0
theorem len_fill (ts : List Int) {j : Nat} (h : j ≤ ts.length) : (fillR ts j).length = ts.length := by simp [fillR]; omega
theorem fill_end (ts : List Int) : fillR ts ts.length = ts := by simp [fillR]
theorem fill_zero (ts : List Int) : fillR ts 0 = List.replicate ts.length 0 := by simp [fillR]

theorem splice_at {α : Type} : ∀ (l : List α) (o : Nat) (x : α), o < l.length → Heap.splice l o [x] = l.set o x
 | [], o, x, h => by simp at h
 | y :: l, 0, x, h => by
  show x :: Heap.splice l 0 [] = _
  have : Heap.splice l 0 [] = l := by cases l <;> rfl
  rw [this]; rfl
 | y :: l, o + 1, x, h => by
  show y :: Heap.splice l o [x] = _
  rw [splice_at l o x (by simpa using h)]; rfl

theorem fill_next (ts : List Int) {j : Nat} (h : j < ts.length) : (fillR ts j).set j ts[j] = fillR ts (j + 1) := by
 apply List.ext_getElem
 ·rw [List.length_set, len_fill ts (by omega), len_fill ts (by omega)]
 ·intro i h1 h2
  rw [List.getElem_set]
  simp only [fillR, List.getElem_append, List.length_take, List.getElem_take, List.getElem_replicate]
  by_cases e : j = i
  ·subst e
   simp only [if_true]
   rw [dif_pos (by omega)]
  ·rw [if_neg e]
   by_cases e2 : i < j
   ·rw [dif_pos (by omega), dif_pos (by omega)]
   ·rw [dif_neg (by omega), dif_neg (by omega)]

theorem fill_put (ts : List Int) {j : Nat} (h : j < ts.length) {x : Int} (hx : x = ts[j]) : Heap.splice (ints (fillR ts j)) j [.int .i64 x] = ints (fillR ts (j + 1)) := by
 subst hx
 rw [splice_at _ _ _ (by rw [len_ints, len_fill ts (by omega)]; exact h), ← fill_next ts h]
 simp [ints, List.map_set]
end Ads
end Go.Proofs.Ytlndlbngfgaoeaa
