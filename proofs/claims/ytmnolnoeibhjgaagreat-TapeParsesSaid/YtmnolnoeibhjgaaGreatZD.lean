/-
  Tape: rows that are read from; numbers out of bytes. Tape: the program's reader: numbers. Tape: the program's reader: its methods. Tape: the program's reader: texts. Tape: an entry, read: the rounds over a command's numbers, which may panic. Tape: an entry, read.
-/
import Derived.Test.YtmnolnoeibhjgaaGreatZC
import Derived.Test.YtmnolnoeibhjgaaGreatZB
set_option maxRecDepth 100000
set_option linter.unusedSimpArgs false
set_option linter.unusedVariables false
namespace Go.Proofs.YtmnolnoeibhjgaaGreat
open Go Ads
namespace Ir
def Sv (I : Nat) (L : List Int) (v : AV) (X : List Int) : Prop :=
 (v = .nils ∧ X = []) ∨ (∃ o k, v = .rest I o k ∧ X = []) ∨ ∃ o cap op, v = .sl I o X.length cap op ∧ X.length ≤ cap ∧ o + cap ≤ L.length ∧ X = (L.drop o).take X.length ∧ L ≠ []
theorem Sv.nils {I : Nat} {L : List Int} : Sv I L .nils [] := .inl ⟨rfl, rfl⟩
theorem Sv.ne {I : Nat} {L : List Int} {v : AV} {X : List Int} (hs : Sv I L v X) (hx : X ≠ []) : L ≠ [] := by
 rcases hs with ⟨_, h⟩ | ⟨_, _, _, h⟩ | ⟨_, _, _, _, _, _, _, h⟩
 ·exact absurd h hx
 ·exact absurd h hx
 ·exact h
theorem Sv.cells {I : Nat} {L : List Int} {v : AV} {X : List Int} (hs : Sv I L v X) : v.cells = [v] ∧ v.cells.length = 1 ∧ flatL v.cells = true := by
 rcases hs with ⟨rfl, rfl⟩ | ⟨o, k, rfl, rfl⟩ | ⟨o, cap, op, rfl, _⟩ <;> exact ⟨rfl, rfl, rfl⟩
theorem Sv.len {I : Nat} {L : List Int} {v : AV} {X : List Int} (hs : Sv I L v X) : pV .lenS [v] = some (.int .i64 ((X.length : Nat) : Int)) := by
 rcases hs with ⟨rfl, rfl⟩ | ⟨o, k, rfl, rfl⟩ | ⟨o, cap, op, rfl, _⟩ <;> rfl
theorem nat_as (n : Nat) : asNat (.int .i64 ((n : Nat) : Int)) = some n := by simp [asNat]
theorem Sv.from {I : Nat} {L : List Int} {v : AV} {X : List Int} (hs : Sv I L v X) {lo : Nat} (hl : lo ≤ X.length) : ∃ v', pV (.slice 1 true false false) [v, .int .i64 ((lo : Nat) : Int)] = some v' ∧ Sv I L v' (X.drop lo) := by
 rcases hs with ⟨rfl, rfl⟩ | ⟨o, k, rfl, rfl⟩ | ⟨o, cap, op, rfl, h1, h2, h3, h0⟩
 ·have : lo = 0 := by simpa using hl
  subst this
  exact ⟨.nils, rfl, .inl ⟨rfl, rfl⟩⟩
 ·have : lo = 0 := by simpa using hl
  subst this
  exact ⟨.rest I o k, rfl, .inr (.inl ⟨o, k, rfl, rfl⟩)⟩
 ·have hb : bounds X.length cap true false false [.int .i64 ((lo : Nat) : Int)] = some (lo, X.length, cap) := by
   simp only [bounds, nat_as, Option.map_some]
   rw [Nat.ble_eq_true_of_le hl, Nat.ble_eq_true_of_le h1, Nat.ble_eq_true_of_le (Nat.le_refl _)]
   rfl
  have hp : pV (.slice 1 true false false) [.sl I o X.length cap op, .int .i64 ((lo : Nat) : Int)] = some (cond (Nat.beq cap lo && Nat.beq cap cap && (op && true && !Nat.beq lo 0)) (.rest I o (lo * 1)) (.sl I (o + cond (Nat.beq cap lo) 0 (lo * 1)) (X.length - lo) (cap - lo) op)) := by
   show sliceF 1 true false false (.sl I o X.length cap op) [.int .i64 ((lo : Nat) : Int)] = _
   simp only [sliceF, dSl, hb, Bool.not_false, cond_false]
   cases (Nat.beq cap lo && Nat.beq cap cap && (op && true && !Nat.beq lo 0)) <;> rfl
  refine ⟨_, hp, ?_⟩
  have hlen : (X.drop lo).length = X.length - lo := by simp
  cases hq : (Nat.beq cap lo && Nat.beq cap cap && (op && true && !Nat.beq lo 0)) with
  | true =>
   simp only [Bool.and_eq_true] at hq
   have := Nat.eq_of_beq_eq_true hq.1.1
   refine .inr (.inl ⟨o, lo * 1, rfl, ?_⟩)
   exact List.eq_nil_of_length_eq_zero (by rw [hlen]; omega)
  | false =>
   simp only [cond_false]
   cases hc : Nat.beq cap lo with
   | true =>
    have hcl := Nat.eq_of_beq_eq_true hc
    have hz : X.drop lo = [] := List.eq_nil_of_length_eq_zero (by rw [hlen]; omega)
    refine .inr (.inr ⟨o, cap - lo, op, ?_, ?_, ?_, ?_, h0⟩)
    ·simp only [cond_true, Nat.add_zero, hlen]
    ·rw [hz]; simp
    ·omega
    ·rw [hz]; simp
   | false =>
    refine .inr (.inr ⟨o + lo, cap - lo, op, ?_, ?_, ?_, ?_, h0⟩)
    ·simp only [cond_false, Nat.mul_one, hlen]
    ·omega
    ·omega
    ·rw [hlen]
     conv => lhs; rw [h3]
     rw [List.drop_take, List.drop_drop]
theorem Sv.to {I : Nat} {L : List Int} {v : AV} {X : List Int} (hs : Sv I L v X) {hi : Nat} (hl : hi ≤ X.length) : ∃ v', pV (.slice 1 false true false) [v, .int .i64 ((hi : Nat) : Int)] = some v' ∧ Sv I L v' (X.take hi) := by
 rcases hs with ⟨rfl, rfl⟩ | ⟨o, k, rfl, rfl⟩ | ⟨o, cap, op, rfl, h1, h2, h3, h0⟩
 ·have : hi = 0 := by simpa using hl
  subst this
  exact ⟨.nils, rfl, .inl ⟨rfl, rfl⟩⟩
 ·have : hi = 0 := by simpa using hl
  subst this
  exact ⟨.rest I o k, rfl, .inr (.inl ⟨o, k, rfl, rfl⟩)⟩
 ·have hb : bounds X.length cap false true false [.int .i64 ((hi : Nat) : Int)] = some (0, hi, cap) := by
   simp only [bounds, nat_as, Option.map_some]
   rw [Nat.ble_eq_true_of_le (Nat.zero_le _), Nat.ble_eq_true_of_le (show hi ≤ cap by omega), Nat.ble_eq_true_of_le (Nat.le_refl _)]
   rfl
  have hp : pV (.slice 1 false true false) [.sl I o X.length cap op, .int .i64 ((hi : Nat) : Int)] = some (.sl I o hi cap op) := by
   show sliceF 1 false true false (.sl I o X.length cap op) [.int .i64 ((hi : Nat) : Int)] = _
   simp only [sliceF, dSl, hb, Bool.not_false, cond_false]
   have : (Nat.beq cap 0 && Nat.beq cap cap && (op && true && !Nat.beq 0 0)) = false := by simp
   rw [this]
   have hz0 : o + cond (Nat.beq cap 0) 0 (0 * 1) = o := by cases Nat.beq cap 0 <;> rfl
   simp only [cond_false, hz0, Nat.sub_zero]
  refine ⟨_, hp, .inr (.inr ⟨o, cap, op, ?_, ?_, h2, ?_, h0⟩)⟩
  ·rw [List.length_take, Nat.min_eq_left hl]
  ·rw [List.length_take]; omega
  ·rw [List.length_take, Nat.min_eq_left hl]
   conv => lhs; rw [h3]
   rw [List.take_take, Nat.min_eq_left hl]
theorem Sv.mid {I : Nat} {L : List Int} {v : AV} {X : List Int} (hs : Sv I L v X) {hi : Nat} (h1 : 1 < hi) (hl : hi ≤ X.length) : ∃ v', pV (.slice 1 true true false) [v, .int .i64 1, .int .i64 ((hi : Nat) : Int)] = some v' ∧ Sv I L v' ((X.drop 1).take (hi - 1)) := by
 rcases hs with ⟨rfl, rfl⟩ | ⟨o, k, rfl, rfl⟩ | ⟨o, cap, op, rfl, g1, g2, g3, g0⟩
 ·simp at hl; omega
 ·simp at hl; omega
 ·have h1a : asNat (.int .i64 1) = some 1 := rfl
  have hb : bounds X.length cap true true false [.int .i64 1, .int .i64 ((hi : Nat) : Int)] = some (1, hi, cap) := by
   simp only [bounds, nat_as, h1a, Option.map_some]
   rw [Nat.ble_eq_true_of_le (show 1 ≤ hi by omega), Nat.ble_eq_true_of_le (show hi ≤ cap by omega), Nat.ble_eq_true_of_le (Nat.le_refl _)]
   rfl
  have hc : Nat.beq cap 1 = false := by cases hq : Nat.beq cap 1 with | false => rfl | true => (have := Nat.eq_of_beq_eq_true hq; omega)
  have hp : pV (.slice 1 true true false) [.sl I o X.length cap op, .int .i64 1, .int .i64 ((hi : Nat) : Int)] = some (.sl I (o + 1) (hi - 1) (cap - 1) op) := by
   show sliceF 1 true true false (.sl I o X.length cap op) [.int .i64 1, .int .i64 ((hi : Nat) : Int)] = _
   simp only [sliceF, dSl, hb, Bool.not_false, cond_false, hc, Bool.false_and]
  have hlen : ((X.drop 1).take (hi - 1)).length = hi - 1 := by rw [List.length_take, List.length_drop]; omega
  refine ⟨_, hp, .inr (.inr ⟨o + 1, cap - 1, op, by rw [hlen], by rw [hlen]; omega, by omega, ?_, g0⟩)⟩
  rw [hlen]
  conv => lhs; rw [g3]
  rw [List.drop_take, List.drop_drop, List.take_take, Nat.min_eq_left (by omega)]
theorem Sv.ix {I : Nat} {L : List Int} {v : AV} {X : List Int} (hs : Sv I L v X) {i : Nat} (hi : i < X.length) : ∃ q, pV (.iaddrS 1) [v, .int .i64 ((i : Nat) : Int)] = some q ∧ ∀ (h : Heap) wr es, h.get I = some (.cells (bys L) wr es) → rV .load1 [q] h = some (.int .u8 X[i]) := by
 rcases hs with ⟨rfl, rfl⟩ | ⟨o, k, rfl, rfl⟩ | ⟨o, cap, op, rfl, h1, h2, h3, h0⟩
 ·simp at hi
 ·simp at hi
 ·refine ⟨.ptr I (o + i), ?_, fun h wr es hg => ld1 hg ?_⟩
  ·have b1 : Nat.ble (i + 1) X.length = true := Nat.ble_eq_true_of_le hi
   simp only [pV, l2, dNat]
   show cond (Nat.ble (i + 1) X.length) (some (AV.ptr I (o + i * 1))) none = _
   rw [b1, cond_true, Nat.mul_one]
  ·have hx : X[i] = L[o + i]'(by omega) := by
    have : X[i]? = ((L.drop o).take X.length)[i]? := by rw [← h3]
    rw [List.getElem?_take, if_pos hi, List.getElem?_drop, List.getElem?_eq_getElem hi, List.getElem?_eq_getElem (by omega)] at this
    exact Option.some.inj this
   rw [hx]
   simp [bys, List.getElem?_map, List.getElem?_eq_getElem (show o + i < L.length by omega)]
theorem Sv.load {I : Nat} {L : List Int} {v : AV} {X : List Int} (hs : Sv I L v X) {h : Heap} {wr : Bool} {es : Nat} (hg : h.get I = some (.cells (bys L) wr es)) : srcV 1 h v = some (X.length, bys X) ∧ rV .toStr [v] h = some (.str (bytS X)) := by
 rcases hs with ⟨rfl, rfl⟩ | ⟨o, k, rfl, rfl⟩ | ⟨o, cap, op, rfl, h1, h2, h3, h0⟩
 ·exact ⟨rfl, rfl⟩
 ·exact ⟨rfl, rfl⟩
 ·have hl : h.loadN I o X.length = some (bys X) := by
   rw [loadN_some hg (by rw [len_bys]; omega)]
   congr 1
   conv => rhs; rw [h3]
   simp [bys, List.map_take, List.map_drop]
  constructor
  ·show (h.loadN I o (X.length * 1)).map _ = _
   rw [Nat.mul_one, hl]
   rfl
  ·show rI .toStr [.sl I o X.length cap op] h = _
   simp only [rI, hl, strBytes_bys, Option.map_some]
theorem BR.sv {lo : Nat} {h : Heap} {v : AV} {M : List Int} (hr : BR lo h v M) : ∃ I, lo ≤ I ∧ Sv I M v M ∧ (M = [] ∨ (∃ wr es, h.get I = some (.cells (bys M) wr es)) ∧ I < h.next) := by
 rcases hr with ⟨h1, rfl⟩ | ⟨hne, b, h1, h2, rfl, h4⟩
 ·have : M = [] := by cases M with | nil => rfl | cons x r => simp [bys] at h1
  subst this
  exact ⟨lo, Nat.le_refl _, .nils, .inl rfl⟩
 ·rw [flat_bys] at h4
  rw [len_bys] at *
  exact ⟨b, h1, .inr (.inr ⟨0, M.length, true, rfl, Nat.le_refl _, by omega, by simp, fun h => hne (by rw [h]; rfl)⟩), .inr ⟨⟨_, _, h4⟩, h2⟩⟩

/- Numbers out of bytes. -/
def stepV (v c : Int) : Int := IntKind.u64.wrap (BitVec.ofInt 64 (IntKind.u64.wrap (v * 2 ^ 8)) ||| BitVec.ofInt 64 (IntKind.u64.wrap c)).toNat
def val8 (l : List Int) : Int := l.foldl stepV 0
def rN (most : Int) : List Int → Int × Int × Nat
 | [] => (3, 0, 0)
 | c :: r => if c = 255 then (if r.length < 8 then (3, 0, 0) else if val8 (r.take 8) = 0 ∨ val8 (r.take 8) > 9007199254740737 then (4, 0, 0) else if 254 + val8 (r.take 8) > most then (5, 0, 0) else (0, 254 + val8 (r.take 8), 9))
  else if c > most then (5, 0, 0) else (0, c, 1)
abbrev RS := List Int × Int
def numS (most : Int) (S : RS) : Int × RS := if S.2 ≠ 0 then (0, S) else if (rN most S.1).1 ≠ 0 then (0, [], (rN most S.1).1) else ((rN most S.1).2.1, S.1.drop (rN most S.1).2.2, 0)
def okB (X : List Int) : Prop := ∀ n ∈ X, 0 ≤ n ∧ n < 256
theorem okB.drop {X : List Int} (h : okB X) (n : Nat) : okB (X.drop n) := fun c hc => h c (List.mem_of_mem_drop hc)
theorem okB.take {X : List Int} (h : okB X) (n : Nat) : okB (X.take n) := fun c hc => h c (List.mem_of_mem_take hc)
theorem u64_wrap (n : Int) : IntKind.u64.wrap n = n % 18446744073709551616 := by simp [IntKind.wrap, IntKind.signed, IntKind.bits]
theorem stepV_rng (v c : Int) : 0 ≤ stepV v c := by
 unfold stepV
 rw [u64_wrap]
 omega
theorem val8_rng : ∀ (l : List Int) (a : Int), 0 ≤ a → 0 ≤ l.foldl stepV a
 | [], a, h => h
 | c :: l, a, h => val8_rng l _ (stepV_rng a c)
theorem rN_rng {most : Int} {X : List Int} (h : okB X) : 0 ≤ (rN most X).2.1 ∧ (rN most X).2.2 ≤ X.length ∧ ((rN most X).1 = 0 → (rN most X).2.1 ≤ most) := by
 cases X with
 | nil => simp [rN]
 | cons c r =>
  have hc := h c (by simp)
  have hv : 0 ≤ val8 (r.take 8) := val8_rng (r.take 8) 0 (by omega)
  simp only [rN]
  generalize val8 (r.take 8) = V at *
  by_cases h1 : c = 255
  ·rw [if_pos h1]
   by_cases h2 : r.length < 8
   ·rw [if_pos h2]; simp
   ·rw [if_neg h2]
    by_cases h3 : V = 0 ∨ V > 9007199254740737
    ·rw [if_pos h3]; simp
    ·rw [if_neg h3]
     by_cases h4 : 254 + V > most
     ·rw [if_pos h4]; simp
     ·rw [if_neg h4]
      simp only [List.length_cons]
      exact ⟨by omega, by omega, fun _ => by omega⟩
  ·rw [if_neg h1]
   by_cases h4 : c > most
   ·rw [if_pos h4]; simp
   ·rw [if_neg h4]
    simp only [List.length_cons]
    exact ⟨hc.1, by omega, fun _ => by omega⟩
theorem shl_val (x : Int) : pV (.bin .shl) [.int .u64 x, .int .u64 8] = some (.int .u64 (IntKind.u64.wrap (x * 2 ^ 8))) := by
 simp [pV, pIF, l2, binF, dInt, isShift, binShift]
 rfl
theorem val_l {I : Nat} {L Y : List Int} {v8 : AV} {h : Heap} {wr : Bool} {es : Nat} (hs : Sv I L v8 Y) (gI : h.get I = some (.cells (bys L) wr es)) (hl : Y.length < 2 ^ 62) {a0 a1 a2 a5 : AV} {B : Nat} {Q : AX → Env → Heap → Prop}
  (hQ : ∀ e', AllAt e' [(6, .int .u64 (val8 Y)), (0, a0), (1, a1), (2, a2), (5, a5)] → Q (.exit 0) e' h) :
  ∀ (m j : Nat) (env : Env), Y.length - j = m → j ≤ Y.length → AllAt env [(6, .int .u64 ((Y.take j).foldl stepV 0)), (38, v8), (39, .int .i64 ((Y.length : Nat) : Int)), (40, .int .i64 ((j : Nat) : Int)), (0, a0), (1, a1), (2, a2), (5, a5)] →
   VC fs ms B false (.loop L_pack_Reader_Num_1_0) env h Q := by
 intro m
 induction m with
 | zero =>
  intro j env hm hj henv
  have he : j = Y.length := by omega
  refine vc_slots 6 _ henv ?_
  refine vc_loopV (vpC_sound (z := true) ?_)
  set_option smartUnfolding false in conv => whnf
  refine brf (by simp; omega) (fun hc => ?_)
  (try rw [hc])
  set_option smartUnfolding false in conv => whnf
  subst he
  exact hQ _ ⟨by rw [val8, ← List.take_length (l := Y)]; simp only [List.take_length]; rfl, rfl, rfl, rfl, rfl, trivial⟩
 | succ m ih =>
  intro j env hm hj henv
  have hlt : j < Y.length := by omega
  obtain ⟨q, hq1, hq2⟩ := hs.ix hlt
  have hld := hq2 h wr es gI
  have hnx : (Y.take (j + 1)).foldl stepV 0 = stepV ((Y.take j).foldl stepV 0) Y[j] := by
   rw [take_next hlt, List.foldl_append]
   rfl
  generalize hc0 : Y[j] = c at *
  generalize (Y.take j).foldl stepV 0 = acc at *
  refine vc_slots 6 _ henv ?_
  refine vc_loopV (vpC_sound (z := true) ?_)
  set_option smartUnfolding false in conv => whnf
  refine brt (by simp; omega) (fun hc => ?_)
  (try rw [hc])
  set_option smartUnfolding false in conv => whnf
  refine ⟨_, hq1, ?_⟩
  set_option smartUnfolding false in conv => whnf
  refine ⟨_, hld, ?_⟩
  set_option smartUnfolding false in conv => whnf
  refine ⟨_, shl_val acc, ?_⟩
  set_option smartUnfolding false in conv => whnf
  exact ih (j + 1) _ (by omega) (by omega) ⟨by rw [hnx]; rfl, rfl, rfl, inc_slot (by omega), rfl, rfl, rfl, rfl, trivial⟩

theorem num1_c {P2 P3 P4 R I : Nat} {L X : List Int} {v : AV} {n0 most : Int} {h : Heap} {wr : Bool} {es : Nat} (hm : most ≤ 9007199254740991)
  (g2 : h.get P2 = some (.cells [.ptr R 0] true 0)) (gR : h.get R = some (.cells [v, .int .i64 0] true 0)) (g4 : h.get P4 = some (.cells [.int .i64 n0] true 0)) (g3 : h.get P3 = some (.cells [.int .i64 most] true 0))
  (gI : L = [] ∨ h.get I = some (.cells (bys L) wr es)) (hs : Sv I L v X) (hok : okB X) (hX : X.length < 2 ^ 62) (d2 : P2 ≠ P4) (dR : R ≠ P4) (d3 : P3 ≠ P4) (dI : L = [] ∨ I ≠ P4) (l3 : P3 < h.next) {Q : AV → Heap → Prop}
  (hQ : ∀ n' h', Fr h h' [P4] → h'.get P4 = some (.cells [.int .i64 n'] true 0) → ((rN most X).1 = 0 → n' = (rN most X).2.1) → Q (.tup [.int .i64 (((rN most X).2.2 : Nat) : Int), .int .i64 (rN most X).1]) h') :
  VD fs ms f_pack_Reader_Num_1 [.ptr P2 0, .ptr P4 0, .ptr P3 0] h Q := by
 refine vd_begin (af := C_pack_Reader_Num_1) rfl (yB rfl) ?_
 set_option smartUnfolding false in conv => whnf
 cases hXc : X with
 | nil =>
  subst hXc
  refine vpC_sound (z := true) ?_
  set_option smartUnfolding false in conv => whnf
  refine ⟨_, ld1 g2 rfl, ?_⟩
  set_option smartUnfolding false in conv => whnf
  refine ⟨_, ld1 gR rfl, ?_⟩
  set_option smartUnfolding false in conv => whnf
  rw [hs.len]
  set_option smartUnfolding false in conv => whnf
  exact hQ n0 h (Fr.refl _ _) g4 (fun hh => absurd hh (by simp [rN]))
 | cons c r =>
  have hXne : X ≠ [] := by rw [hXc]; simp
  have hLne : L ≠ [] := hs.ne hXne
  replace gI := gI.resolve_left hLne
  replace dI := dI.resolve_left hLne
  have hlen : X.length = r.length + 1 := by rw [hXc]; rfl
  obtain ⟨q0, hq1, hq2⟩ := hs.ix (i := 0) (by omega)
  have hld := hq2 h wr es gI
  have hc0 : X[0] = c := by simp [hXc]
  rw [hc0] at hld
  have hcr := hok c (by rw [hXc]; simp)
  have hrN : rN most X = if c = 255 then (if r.length < 8 then (3, 0, 0) else if val8 (r.take 8) = 0 ∨ val8 (r.take 8) > 9007199254740737 then (4, 0, 0) else if 254 + val8 (r.take 8) > most then (5, 0, 0) else (0, 254 + val8 (r.take 8), 9))
   else if c > most then (5, 0, 0) else (0, c, 1) := by rw [hXc]; rfl
  refine vc_seq true ?_
  set_option smartUnfolding false in conv => whnf
  refine vc_seq true ?_
  set_option smartUnfolding false in conv => whnf
  refine ⟨_, ld1 g2 rfl, ?_⟩
  set_option smartUnfolding false in conv => whnf
  refine ⟨_, ld1 gR rfl, ?_⟩
  set_option smartUnfolding false in conv => whnf
  rw [hs.len]
  set_option smartUnfolding false in conv => whnf
  refine brf (by simpa using hXne) (fun hc => ?_)
  (try rw [hc])
  set_option smartUnfolding false in conv => whnf
  refine vc_seq true ?_
  set_option smartUnfolding false in conv => whnf
  have hlast : ∀ e' h' (n' : Int) (sz : Nat), AllAt e' [(0, .ptr P2 0), (1, .ptr P4 0), (2, .ptr P3 0), (5, .int .i64 ((sz : Nat) : Int))] → Fr h h' [P4] → h'.get P4 = some (.cells [.int .i64 n'] true 0) → (rN most X = if n' > most then (5, 0, 0) else (0, n', sz)) →
    VC fs ms h.next false (.seq (.seq (.ops [zL 59 1, zL 60 2, zP 61 (.bin .gtr) [.t 59, .t 60]]) (.cond (.t 61) (.seq (.ops [zP 3 .mov [.c (.int .i64 0)], zP 4 .mov [.c (.int .i64 5)]]) .ret) .skip)) (.seq (.ops [zM 62 5, zM 3 62, zP 4 .mov [.c (.int .i64 0)]]) .ret)) e' h' (endV C_pack_Reader_Num_1.results Q) := by
   intro e' h' n' sz ha fr hg4 hr
   refine vc_slots 4 _ ha (vpC_sound (z := true) ?_)
   set_option smartUnfolding false in conv => whnf
   refine ⟨_, ld1 hg4 rfl, ?_⟩
   set_option smartUnfolding false in conv => whnf
   have fk := fr.keep P3 l3 (by simpa using d3)
   refine ⟨_, ld1 (fk.trans g3) rfl, ?_⟩
   set_option smartUnfolding false in conv => whnf
   refine br (fun hc => ?_) (fun hc => ?_) <;> (try rw [hc]) <;> (set_option smartUnfolding false in conv => whnf)
   ·have hgt : n' > most := of_decide_eq_true hc
    rw [if_pos hgt] at hr
    have := hQ n' h' fr hg4 (by rw [hr]; simp)
    rw [hr] at this
    exact this
   ·have hgt : ¬ n' > most := of_decide_eq_false hc
    rw [if_neg hgt] at hr
    have := hQ n' h' fr hg4 (by rw [hr]; simp)
    rw [hr] at this
    exact this
  refine vc_seqV (vc_seq true ?_)
  set_option smartUnfolding false in conv => whnf
  refine ⟨_, ld1 g2 rfl, ?_⟩
  set_option smartUnfolding false in conv => whnf
  refine ⟨_, ld1 gR rfl, ?_⟩
  set_option smartUnfolding false in conv => whnf
  refine ⟨_, hq1, ?_⟩
  set_option smartUnfolding false in conv => whnf
  refine ⟨_, hld, ?_⟩
  set_option smartUnfolding false in conv => whnf
  refine eff_o (sto_o g4 rfl (Nat.le_refl _) rfl) fun h1 e1 => ?_
  have hwc : IntKind.i64.wrap c = c := IntWalk.i64_in _ (by omega)
  have h1f : Fr h h1 [P4] := by rw [e1]; exact (Fr.refl h [P4]).set (by simp)
  have h14 : h1.get P4 = some (.cells [.int .i64 c] true 0) := by rw [e1, get_set_same]; show some (Blk.cells [AV.int .i64 (IntKind.i64.wrap c)] true 0) = _; rw [hwc]
  have h12 : h1.get P2 = some (.cells [.ptr R 0] true 0) := by rw [e1]; exact (get_set_ne d2).trans g2
  have h1R : h1.get R = some (.cells [v, .int .i64 0] true 0) := by rw [e1]; exact (get_set_ne dR).trans gR
  have h1I : h1.get I = some (.cells (bys L) wr es) := by rw [e1]; exact (get_set_ne dI).trans gI
  clear e1
  set_option smartUnfolding false in conv => whnf
  refine vc_seq true ?_
  set_option smartUnfolding false in conv => whnf
  refine ⟨_, ld1 h14 rfl, ?_⟩
  set_option smartUnfolding false in conv => whnf
  refine vc_condV ?_
  set_option smartUnfolding false in conv => whnf
  refine br (fun hc => ?_) (fun hc => ?_) <;> (try rw [hc]) <;> (set_option smartUnfolding false in conv => whnf)
  ·have h255 : c = 255 := by simpa using hc
   have h9 : IntKind.i64.wrap (1 + 8) = ((9 : Nat) : Int) := rfl
   refine vc_seqV (vc_seq true ?_)
   set_option smartUnfolding false in conv => whnf
   refine vc_seq true ?_
   set_option smartUnfolding false in conv => whnf
   refine ⟨_, ld1 h12 rfl, ?_⟩
   set_option smartUnfolding false in conv => whnf
   refine ⟨_, ld1 h1R rfl, ?_⟩
   set_option smartUnfolding false in conv => whnf
   rw [hs.len]
   set_option smartUnfolding false in conv => whnf
   refine vpC_sound (z := true) ?_
   set_option smartUnfolding false in conv => whnf
   refine br (fun hc => ?_) (fun hc => ?_) <;> (try rw [hc]) <;> (set_option smartUnfolding false in conv => whnf)
   ·have hr8 : r.length < 8 := by have := of_decide_eq_true hc; rw [h9, hlen] at this; omega
    have hr : rN most X = (3, 0, 0) := by rw [hrN, if_pos h255, if_pos hr8]
    have := hQ c h1 h1f h14 (by rw [hr]; simp)
    rw [hr] at this
    exact this
   ·have hr8 : ¬ r.length < 8 := by have := of_decide_eq_false hc; rw [h9, hlen] at this; omega
    rw [if_pos h255, if_neg hr8] at hrN
    refine vc_seq true ?_
    set_option smartUnfolding false in conv => whnf
    refine vc_seqV (vc_seq true ?_)
    set_option smartUnfolding false in conv => whnf
    refine ⟨_, ld1 h12 rfl, ?_⟩
    set_option smartUnfolding false in conv => whnf
    refine ⟨_, ld1 h1R rfl, ?_⟩
    set_option smartUnfolding false in conv => whnf
    obtain ⟨v8, hp8, hs8⟩ := hs.mid (hi := 9) (by omega) (by omega)
    have hY : (X.drop 1).take (9 - 1) = r.take 8 := by rw [hXc]; rfl
    rw [hY] at hs8
    refine ⟨_, hp8, ?_⟩
    set_option smartUnfolding false in conv => whnf
    rw [hs8.len]
    set_option smartUnfolding false in conv => whnf
    refine vc_block ?_
    refine val_l hs8 h1I (by rw [List.length_take]; omega) ?_ (r.take 8).length 0 _ rfl (Nat.zero_le _) ⟨rfl, rfl, rfl, rfl, rfl, rfl, rfl, rfl, trivial⟩
    intro e' ha
    have hv := val8_rng (r.take 8) 0 (by omega)
    change 0 ≤ val8 (r.take 8) at hv
    generalize val8 (r.take 8) = V at *
    show VC fs ms h.next false _ _ _ _
    refine vc_slots 6 _ ha ?_
    refine vc_seq true ?_
    set_option smartUnfolding false in conv => whnf
    refine br (fun hc => ?_) (fun hc => ?_) <;> (try rw [hc]) <;> (set_option smartUnfolding false in conv => whnf)
    ·have hV : V = 0 := by simpa using hc
     have hr : rN most X = (4, 0, 0) := by rw [hrN, if_pos (.inl hV)]
     have := hQ c h1 h1f h14 (by rw [hr]; simp)
     rw [hr] at this
     exact this
    ·have hV0 : ¬ V = 0 := by simpa using hc
     refine br (fun hc => ?_) (fun hc => ?_) <;> (try rw [hc]) <;> (set_option smartUnfolding false in conv => whnf)
     ·have hV : V > 9007199254740737 := of_decide_eq_true hc
      have hr : rN most X = (4, 0, 0) := by rw [hrN, if_pos (.inr hV)]
      have := hQ c h1 h1f h14 (by rw [hr]; simp)
      rw [hr] at this
      exact this
     ·have hV : ¬ V > 9007199254740737 := of_decide_eq_false hc
      rw [if_neg (by rintro (h | h) <;> omega)] at hrN
      refine vpC_sound (z := true) ?_
      set_option smartUnfolding false in conv => whnf
      refine eff_o (sto_o h14 rfl (Nat.le_refl _) rfl) fun h2 e2 => ?_
      have hwv : IntKind.i64.wrap (254 + IntKind.i64.wrap V) = 254 + V := by rw [IntWalk.i64_in V (by omega), IntWalk.i64_in _ (by omega)]
      have h2f : Fr h h2 [P4] := by rw [e2]; exact h1f.set (by simp)
      have h24 : h2.get P4 = some (.cells [.int .i64 (254 + V)] true 0) := by rw [e2, get_set_same]; show some (Blk.cells [AV.int .i64 (IntKind.i64.wrap (254 + IntKind.i64.wrap V))] true 0) = _; rw [hwv]
      clear e2
      set_option smartUnfolding false in conv => whnf
      exact hlast _ h2 (254 + V) 9 ⟨rfl, rfl, rfl, rfl, trivial⟩ h2f h24 hrN
  ·have h255 : ¬ c = 255 := by simpa using hc
   refine vpC_sound (z := true) ?_
   set_option smartUnfolding false in conv => whnf
   exact hlast _ h1 c 1 ⟨rfl, rfl, rfl, rfl, trivial⟩ h1f h14 (by rw [hrN, if_neg h255])
structure RdP (h : Heap) (R I : Nat) (L : List Int) (S : RS) : Prop where
 gR : ∃ v, h.get R = some (.cells [v, .int .i64 S.2] true 0) ∧ Sv I L v S.1
 gI : L = [] ∨ (∃ wr es, h.get I = some (.cells (bys L) wr es)) ∧ I ≠ R ∧ I < h.next
 lR : R < h.next
 ok : okB S.1
 sz : S.1.length < 2 ^ 62
theorem RdP.keep {h h' : Heap} {R I : Nat} {L : List Int} {S : RS} {T : List Nat} (hr : RdP h R I L S) (fr : Fr h h' T) (hR : R ∉ T) (hI : L = [] ∨ I ∉ T) : RdP h' R I L S := by
 obtain ⟨⟨v, g1, g2⟩, g3, g4, g5, g6⟩ := hr
 refine ⟨⟨v, (fr.keep R g4 hR).trans g1, g2⟩, ?_, Nat.lt_of_lt_of_le g4 fr.next, g5, g6⟩
 rcases g3 with h | ⟨⟨wr, es, h1⟩, h2, h3⟩
 ·exact .inl h
 ·rcases hI with h | hI
  ·exact .inl h
  ·exact .inr ⟨⟨wr, es, (fr.keep I h3 hI).trans h1⟩, h2, Nat.lt_of_lt_of_le h3 fr.next⟩
theorem RdP.keepN {h0 h h' : Heap} {R I : Nat} {L : List Int} {S0 S : RS} {T : List Nat} (hr0 : RdP h0 R I L S0) (hr : RdP h R I L S) (fr : Fr h h' T) (hT : ∀ b ∈ T, h0.next ≤ b) : RdP h' R I L S := by
 refine hr.keep fr (fun hm => by have := hT R hm; have := hr0.lR; omega) ?_
 rcases hr0.gI with h | ⟨_, _, h⟩
 ·exact .inl h
 ·exact .inr (fun hm => by have := hT I hm; omega)
theorem RdP.to {h h' : Heap} {R I : Nat} {L : List Int} {S S' : RS} {v' : AV} (hr : RdP h R I L S) (fr : Fr h h' [R]) (g : h'.get R = some (.cells [v', .int .i64 S'.2] true 0)) (hs : Sv I L v' S'.1) (hn : S'.1.length ≤ S.1.length) (hok : okB S'.1) : RdP h' R I L S' := by
 obtain ⟨_, g3, g4, g5, g6⟩ := hr
 refine ⟨⟨v', g, hs⟩, ?_, Nat.lt_of_lt_of_le g4 fr.next, hok, by omega⟩
 rcases g3 with h | ⟨⟨wr, es, h1⟩, h2, h3⟩
 ·exact .inl h
 ·exact .inr ⟨⟨wr, es, (fr.keep I h3 (by simpa using h2)).trans h1⟩, h2, Nat.lt_of_lt_of_le h3 fr.next⟩
theorem numS_len (most : Int) (S : RS) : (numS most S).2.1.length ≤ S.1.length := by
 unfold numS
 split
 ·exact Nat.le_refl _
 ·split
  ·simp
  ·simp
theorem numS_ok {most : Int} {S : RS} (h : okB S.1) : okB (numS most S).2.1 := by
 unfold numS
 split
 ·exact h
 ·split
  ·intro n hn; simp at hn
  ·exact h.drop _

theorem step_bad {R : Nat} {h : Heap} {v : AV} {e : Int} (gR : h.get R = some (.cells [v, .int .i64 e] true 0)) (he : e ≠ 0) {f : Nat} {capt : List AV} {Q : AV → Heap → Prop} (hQ : Q (.bool false) h) :
  VD fs ms f_pack_Reader_step [.ptr R 0, .func (.func f) [] capt] h Q := by
 refine vd_start (af := C_pack_Reader_step) true rfl (yB rfl) ?_
 set_option smartUnfolding false in conv => whnf
 refine ⟨_, ld1 gR rfl, ?_⟩
 set_option smartUnfolding false in conv => whnf
 refine brt (by simpa using he) (fun hc => ?_)
 (try rw [hc])
 set_option smartUnfolding false in conv => whnf
 exact hQ
theorem step_g {R : Nat} {h : Heap} {v0 : AV} (gR : h.get R = some (.cells [v0, .int .i64 0] true 0)) {f : Nat} {capt : List AV} {Q : AV → Heap → Prop}
  (hw : VD fs ms f capt h fun u h1 => ∃ (size : Nat) (err : Int) (v : AV), u = .tup [.int .i64 ((size : Nat) : Int), .int .i64 err] ∧ h1.get R = some (.cells [v, .int .i64 0] true 0) ∧
   (err ≠ 0 → ∀ h2, h2.get R = some (.cells [.nils, .int .i64 err] true 0) → Fr h1 h2 [R] → Q (.bool false) h2) ∧
   (err = 0 → ∃ v', pV (.slice 1 true false false) [v, .int .i64 ((size : Nat) : Int)] = some v' ∧ v'.cells = [v'] ∧ flatL [v'] = true ∧ ∀ h2, h2.get R = some (.cells [v', .int .i64 0] true 0) → Fr h1 h2 [R] → Q (.bool true) h2)) :
  VD fs ms f_pack_Reader_step [.ptr R 0, .func (.func f) [] capt] h Q := by
 refine vd_start (af := C_pack_Reader_step) true rfl (yB rfl) ?_
 set_option smartUnfolding false in conv => whnf
 refine ⟨_, ld1 gR rfl, ?_⟩
 set_option smartUnfolding false in conv => whnf
 refine VD.mono hw ?_
 rintro u h1 ⟨size, err, v, rfl, g1, hbad, hgood⟩
 set_option smartUnfolding false in conv => whnf
 refine br (fun hc => ?_) (fun hc => ?_) <;> (try rw [hc]) <;> (set_option smartUnfolding false in conv => whnf)
 ·have he : err ≠ 0 := by simpa using hc
  refine eff_o (sto_o g1 rfl (by simp) rfl) fun h2 e2 => ?_
  have g2 : h2.get R = some (.cells [.nils, .int .i64 0] true 0) := by rw [e2, get_set_same]; rfl
  have f2 : Fr h1 h2 [R] := by rw [e2]; exact (Fr.refl h1 [R]).set (by simp)
  clear e2
  set_option smartUnfolding false in conv => whnf
  refine eff_o (sto_o g2 rfl (by simp) rfl) fun h3 e3 => ?_
  have g3 : h3.get R = some (.cells [.nils, .int .i64 err] true 0) := by rw [e3, get_set_same]; rfl
  have f3 : Fr h1 h3 [R] := by rw [e3]; exact f2.set (by simp)
  clear e3
  set_option smartUnfolding false in conv => whnf
  exact hbad he h3 g3 f3
 ·have he : err = 0 := by simpa using hc
  obtain ⟨v', hp, hc1, hc2, hk⟩ := hgood he
  refine ⟨_, ld1 g1 rfl, ?_⟩
  set_option smartUnfolding false in conv => whnf
  refine ⟨_, hp, ?_⟩
  set_option smartUnfolding false in conv => whnf
  refine eff_o (sto_o g1 (by rw [hc1]; rfl) (by simp) (by rw [hc1]; exact hc2)) fun h2 e2 => ?_
  have g2 : h2.get R = some (.cells [v', .int .i64 0] true 0) := by rw [e2, get_set_same, hc1]; rfl
  have f2 : Fr h1 h2 [R] := by rw [e2]; exact (Fr.refl h1 [R]).set (by simp)
  clear e2
  set_option smartUnfolding false in conv => whnf
  exact hk h2 g2 f2
theorem num_c {R I : Nat} {L : List Int} {S : RS} {h : Heap} {most : Int} (hm : most ≤ 9007199254740991) (hr : RdP h R I L S) {Q : AV → Heap → Prop}
  (hQ : ∀ h', RdP h' R I L (numS most S).2 → Fr h h' [R] → Q (.int .i64 (numS most S).1) h') : VD fs ms f_pack_Reader_Num [.ptr R 0, .int .i64 most] h Q := by
 have hr0 := hr
 obtain ⟨⟨v, gR, hs⟩, gI, lR, ok, sz⟩ := hr
 refine vd_begin (af := C_pack_Reader_Num) rfl (yB rfl) ?_
 set_option smartUnfolding false in conv => whnf
 refine vc_seq true ?_
 set_option smartUnfolding false in conv => whnf
 obtain ⟨H, hH⟩ : ∃ H, H = (((h.new (.cells [.ptr R 0] true 0)).new (.cells [.int .i64 most] true 0)).new (.cells [.int .i64 0] true 0)) := ⟨_, rfl⟩
 have hf0 : Fr h H [] := by rw [hH]; exact (Fr.refl h []).new.new.new
 have hn0 : H.next = h.next + 3 := by rw [hH]; rfl
 have g2 : H.get h.next = some (.cells [.ptr R 0] true 0) := by
  rw [hH]
  exact (get_new_ne (show h.next < h.next + 2 by omega)).trans ((get_new_ne (show h.next < h.next + 1 by omega)).trans get_new_same)
 have g3 : H.get (h.next + 1) = some (.cells [.int .i64 most] true 0) := by
  rw [hH]
  exact (get_new_ne (show h.next + 1 < h.next + 2 by omega)).trans (get_new_same (h := h.new _))
 have g4 : H.get (h.next + 2) = some (.cells [.int .i64 0] true 0) := by
  rw [hH]
  exact get_new_same (h := (h.new _).new _)
 have gR1 : H.get R = some (.cells [v, .int .i64 S.2] true 0) := (hf0.keep R lR (by simp)).trans gR
 show VC fs ms h.next false _ (Tr.node _ _ _) (((h.new (.cells [.ptr R 0] true 0)).new (.cells [.int .i64 most] true 0)).new (.cells [.int .i64 0] true 0)) _
 rw [← hH]
 clear hH
 have hend0 : ∀ e' h', AllAt e' [(4, .ptr (h.next + 2) 0), (5, .bool false)] → Fr h h' [R] → (∃ n', h'.get (h.next + 2) = some (.cells [.int .i64 n'] true 0)) → RdP h' R I L (numS most S).2 → (numS most S).1 = 0 →
   VC fs ms h.next false (.seq (.seq (.ops [zM 9 5, zP 10 .not [.t 9]]) (.cond (.t 10) (.seq (.ops [zS 1 [.t 4, .c (.int .i64 0)]]) .ret) .skip)) (.seq (.ops [zL 11 4, zS 1 [.t 4, .t 11]]) .ret)) e' h' (endV C_pack_Reader_Num.results Q) := by
  intro e' h' ha fr ⟨n', g⟩ hp hz
  refine vc_slots 4 _ ha (vpC_sound (z := true) ?_)
  set_option smartUnfolding false in conv => whnf
  refine eff_o (sto_o g rfl (Nat.le_refl _) rfl) fun h2 e2 => ?_
  have gg : h2.get (h.next + 2) = some (.cells [.int .i64 0] true 0) := by rw [e2, get_set_same]; rfl
  have ff : Fr h' h2 [h.next + 2] := by rw [e2]; exact (Fr.refl h' _).set (by simp)
  have f3 : Fr h h2 [R] := by rw [e2]; exact fr.setn (by omega)
  clear e2
  set_option smartUnfolding false in conv => whnf
  refine opt_go (v := [.int .i64 0]) (res_cell rfl gg rfl) ?_
  set_option smartUnfolding false in conv => whnf
  have := hQ h2 (hr0.keepN hp ff (by simp)) f3
  rw [hz] at this
  exact this
 have hend1 : ∀ e' h', AllAt e' [(4, .ptr (h.next + 2) 0), (5, .bool true)] → Fr h h' [R] → h'.get (h.next + 2) = some (.cells [.int .i64 (numS most S).1] true 0) → RdP h' R I L (numS most S).2 →
   VC fs ms h.next false (.seq (.seq (.ops [zM 9 5, zP 10 .not [.t 9]]) (.cond (.t 10) (.seq (.ops [zS 1 [.t 4, .c (.int .i64 0)]]) .ret) .skip)) (.seq (.ops [zL 11 4, zS 1 [.t 4, .t 11]]) .ret)) e' h' (endV C_pack_Reader_Num.results Q) := by
  intro e' h' ha fr g hp
  refine vc_slots 4 _ ha (vpC_sound (z := true) ?_)
  set_option smartUnfolding false in conv => whnf
  refine ⟨_, ld1 g rfl, ?_⟩
  set_option smartUnfolding false in conv => whnf
  refine eff_o (sto_o g rfl (Nat.le_refl _) rfl) fun h2 e2 => ?_
  have gg : h2.get (h.next + 2) = some (.cells [.int .i64 (numS most S).1] true 0) := by rw [e2, get_set_same]; rfl
  have ff : Fr h' h2 [h.next + 2] := by rw [e2]; exact (Fr.refl h' _).set (by simp)
  have f3 : Fr h h2 [R] := by rw [e2]; exact fr.setn (by omega)
  clear e2
  set_option smartUnfolding false in conv => whnf
  refine opt_go (v := [.int .i64 (numS most S).1]) (res_cell rfl gg rfl) ?_
  set_option smartUnfolding false in conv => whnf
  exact hQ h2 (hr0.keepN hp ff (by simp)) f3
 have hfR : Fr h H [R] := ⟨hf0.next, fun c hc _ => hf0.keep c hc (by simp)⟩
 have hrH : RdP H R I L S := hr0.keep hf0 (by simp) (.inr (by simp))
 refine vc_seq true ?_
 set_option smartUnfolding false in conv => whnf
 refine ⟨_, ld1 g2 rfl, ?_⟩
 set_option smartUnfolding false in conv => whnf
 by_cases he : S.2 = 0
 ·have hgI : L = [] ∨ ∃ wr es, H.get I = some (.cells (bys L) wr es) := by
   rcases hrH.gI with h | ⟨h, _⟩
   ·exact .inl h
   ·exact .inr h
  rw [he] at gR1
  have hnum : ∀ (wr : Bool) (es : Nat), (L = [] ∨ H.get I = some (.cells (bys L) wr es)) → VD fs ms f_pack_Reader_step [.ptr R 0, .func (.func f_pack_Reader_Num_1) [] [.ptr h.next 0, .ptr (h.next + 2) 0, .ptr (h.next + 1) 0]] H (fun u h' => (u = .bool true ∧ Fr h h' [R] ∧ h'.get (h.next + 2) = some (.cells [.int .i64 (numS most S).1] true 0) ∧ RdP h' R I L (numS most S).2) ∨ (u = .bool false ∧ Fr h h' [R] ∧ (∃ n', h'.get (h.next + 2) = some (.cells [.int .i64 n'] true 0)) ∧ RdP h' R I L (numS most S).2 ∧ (numS most S).1 = 0)) := by
   intro wr es hgi
   refine step_g gR1 ?_
   refine num1_c (wr := wr) (es := es) hm g2 gR1 g4 g3 hgi hs ok sz (by omega) (by omega) (by omega) ?_ (by omega) ?_
   ·rcases gI with h | ⟨_, _, h⟩
    ·exact .inl h
    ·exact .inr (by omega)
   intro n' h1 fr1 g41 hn
   have hrg := rN_rng (most := most) ok
   have gR2 : h1.get R = some (.cells [v, .int .i64 0] true 0) := (fr1.keep R (by omega) (by simp; omega)).trans gR1
   have frR : Fr h h1 [R] := ⟨by have := fr1.next; omega, fun c hc hn => (fr1.keep c (by omega) (by simp; omega)).trans (hf0.keep c hc (by simp))⟩
   have hnS : numS most S = if (rN most S.1).1 ≠ 0 then (0, [], (rN most S.1).1) else ((rN most S.1).2.1, S.1.drop (rN most S.1).2.2, 0) := by
    unfold numS
    rw [if_neg (by rw [he]; simp)]
   refine ⟨(rN most S.1).2.2, (rN most S.1).1, v, rfl, gR2, ?_, ?_⟩
   ·intro hne h2 gg ff
    rw [if_pos hne] at hnS
    refine .inr ⟨rfl, frR.trans ff, ⟨n', (ff.keep _ (by have := fr1.next; omega) (by simp; omega)).trans g41⟩, ?_, by rw [hnS]⟩
    refine hr0.to (frR.trans ff) (v' := .nils) (by rw [hnS]; exact gg) (by rw [hnS]; exact .nils) (by rw [hnS]; simp) (by rw [hnS]; intro n hn; simp at hn)
   ·intro hz
    rw [if_neg (by simp [hz])] at hnS
    obtain ⟨v', hp, hsv⟩ := hs.from (lo := (rN most S.1).2.2) hrg.2.1
    refine ⟨v', hp, hsv.cells.1, by have := hsv.cells.2.2; rw [hsv.cells.1] at this; exact this, fun h2 gg ff => ?_⟩
    refine .inl ⟨rfl, frR.trans ff, ?_, ?_⟩
    ·rw [hnS, ← hn hz]
     exact (ff.keep _ (by have := fr1.next; omega) (by simp; omega)).trans g41
    ·exact hr0.to (frR.trans ff) (v' := v') (by rw [hnS]; exact gg) (by rw [hnS]; exact hsv) (numS_len most S) (numS_ok ok)
  have hwe : ∃ (wr : Bool) (es : Nat), L = [] ∨ H.get I = some (.cells (bys L) wr es) := by
   rcases hgI with h | ⟨wr, es, h⟩
   ·exact ⟨true, 0, .inl h⟩
   ·exact ⟨wr, es, .inr h⟩
  obtain ⟨wr, es, hgi⟩ := hwe
  refine VD.mono (hnum wr es hgi) ?_
  rintro u h' (⟨rfl, fr, g, hp⟩ | ⟨rfl, fr, g, hp, hz⟩)
  ·set_option smartUnfolding false in conv => whnf
   exact hend1 _ h' ⟨rfl, rfl, trivial⟩ fr g hp
  ·set_option smartUnfolding false in conv => whnf
   exact hend0 _ h' ⟨rfl, rfl, trivial⟩ fr g hp hz
 ·have hnS : numS most S = (0, S) := by
   unfold numS
   rw [if_pos he]
  refine step_bad gR1 he ?_
  set_option smartUnfolding false in conv => whnf
  exact hend0 _ H ⟨rfl, rfl, trivial⟩ hfR ⟨0, g4⟩ (by rw [hnS]; exact hrH) (by rw [hnS])
theorem err_c {R I : Nat} {L : List Int} {S : RS} {h : Heap} (hr : RdP h R I L S) {Q : AV → Heap → Prop} (hQ : Q (.int .i64 S.2) h) : VD fs ms f_pack_Reader_Err [.ptr R 0] h Q := by
 obtain ⟨⟨v, gR, hs⟩, _⟩ := hr
 refine vd_start (af := C_pack_Reader_Err) true rfl (yB rfl) ?_
 set_option smartUnfolding false in conv => whnf
 refine ⟨_, ld1 gR rfl, ?_⟩
 set_option smartUnfolding false in conv => whnf
 exact hQ
theorem left_c {R I : Nat} {L : List Int} {S : RS} {h : Heap} (hr : RdP h R I L S) {Q : AV → Heap → Prop} (hQ : Q (.int .i64 ((S.1.length : Nat) : Int)) h) : VD fs ms f_pack_Reader_Left [.ptr R 0] h Q := by
 obtain ⟨⟨v, gR, hs⟩, _⟩ := hr
 refine vd_start (af := C_pack_Reader_Left) true rfl (yB rfl) ?_
 set_option smartUnfolding false in conv => whnf
 refine ⟨_, ld1 gR rfl, ?_⟩
 set_option smartUnfolding false in conv => whnf
 rw [hs.len]
 set_option smartUnfolding false in conv => whnf
 exact hQ
structure SvP (h : Heap) (I : Nat) (L : List Int) (v : AV) (X : List Int) : Prop where
 hs : Sv I L v X
 gI : L = [] ∨ (∃ wr es, h.get I = some (.cells (bys L) wr es)) ∧ I < h.next
 ok : okB X
 sz : X.length < 2 ^ 62
theorem SvP.keep {h h' : Heap} {I : Nat} {L : List Int} {v : AV} {X : List Int} {T : List Nat} (hr : SvP h I L v X) (fr : Fr h h' T) (hI : L = [] ∨ I ∉ T) : SvP h' I L v X := by
 obtain ⟨g1, g2, g3, g4⟩ := hr
 refine ⟨g1, ?_, g3, g4⟩
 rcases g2 with h | ⟨⟨wr, es, h1⟩, h2⟩
 ·exact .inl h
 ·rcases hI with h | hI
  ·exact .inl h
  ·exact .inr ⟨⟨wr, es, (fr.keep I h2 hI).trans h1⟩, Nat.lt_of_lt_of_le h2 fr.next⟩
theorem SvP.from {h : Heap} {I : Nat} {L : List Int} {v : AV} {X : List Int} (hr : SvP h I L v X) {lo : Nat} (hl : lo ≤ X.length) : ∃ v', pV (.slice 1 true false false) [v, .int .i64 ((lo : Nat) : Int)] = some v' ∧ SvP h I L v' (X.drop lo) := by
 obtain ⟨v', h1, h2⟩ := hr.hs.from hl
 exact ⟨v', h1, h2, hr.gI, hr.ok.drop _, by have := hr.sz; rw [List.length_drop]; omega⟩
theorem SvP.to {h : Heap} {I : Nat} {L : List Int} {v : AV} {X : List Int} (hr : SvP h I L v X) {hi : Nat} (hl : hi ≤ X.length) : ∃ v', pV (.slice 1 false true false) [v, .int .i64 ((hi : Nat) : Int)] = some v' ∧ SvP h I L v' (X.take hi) := by
 obtain ⟨v', h1, h2⟩ := hr.hs.to hl
 exact ⟨v', h1, h2, hr.gI, hr.ok.take _, by have := hr.sz; rw [List.length_take]; omega⟩
theorem read0_c {I : Nat} {L X : List Int} {v : AV} {h : Heap} (hs : SvP h I L v X) {Q : AV → Heap → Prop} (hQ : ∀ h', RdP h' h.next I L (X, 0) → Fr h h' [] → h'.next = h.next + 1 → Q (.ptr h.next 0) h') : VD fs ms f_pack_Read [v] h Q := by
 obtain ⟨g1, g2, g3, g4⟩ := hs
 refine vd_start (af := C_pack_Read) true rfl (yB rfl) ?_
 have hb : pV (.build [.nils, .int .i64 0] [(0, 1)]) [v] = some (.agg [v, .int .i64 0]) := by rcases g1 with ⟨rfl, _⟩ | ⟨o, k, rfl, _⟩ | ⟨o, cap, op, rfl, _⟩ <;> rfl
 set_option smartUnfolding false in conv => whnf
 refine opt_go hb ?_
 set_option smartUnfolding false in conv => whnf
 refine hQ _ ?_ ((Fr.refl h []).new) rfl
 refine ⟨⟨v, get_new_same, g1⟩, ?_, Nat.lt_succ_self _, g3, g4⟩
 rcases g2 with h | ⟨⟨wr, es, h1⟩, h2⟩
 ·exact .inl h
 ·exact .inr ⟨⟨wr, es, (get_new_ne h2).trans h1⟩, by omega, Nat.lt_succ_of_lt h2⟩
abbrev errT : Nat := 26
theorem must_c {R I : Nat} {L : List Int} {S : RS} {h : Heap} (hr : RdP h R I L S) {Q R' : AV → Heap → Prop} (hQ : S.2 = 0 → Q (.tup []) h) (hR : S.2 ≠ 0 → R' (.iface errT (.int .i64 S.2)) h) : VX fs ms f_tape_must [.ptr R 0] h Q R' := by
 refine vx_begin (af := C_tape_must) rfl (yB rfl) ?_
 set_option smartUnfolding false in conv => whnf
 refine vc_seq true ?_
 set_option smartUnfolding false in conv => whnf
 refine err_c hr ?_
 set_option smartUnfolding false in conv => whnf
 refine vc_seq true ?_
 set_option smartUnfolding false in conv => whnf
 refine vc_condV ?_
 set_option smartUnfolding false in conv => whnf
 refine br (fun hc => ?_) (fun hc => ?_) <;> (try rw [hc]) <;> (set_option smartUnfolding false in conv => whnf)
 ·have he : S.2 ≠ 0 := by simpa using hc
  refine vc_panic (z := true) rfl ?_
  set_option smartUnfolding false in conv => whnf
  exact ⟨_, _, rfl, rfl, hR he⟩
 ·have he : S.2 = 0 := by simpa using hc
  refine vpC_sound (z := true) ?_
  set_option smartUnfolding false in conv => whnf
  exact ⟨[], rfl, hQ he⟩
def endE (S : RS) : Int := if S.2 = 0 then (if S.1 = [] then 0 else 4) else S.2
theorem end_c {R I : Nat} {L : List Int} {S : RS} {h : Heap} (hr : RdP h R I L S) {Q : AV → Heap → Prop} (hQ : Q (.int .i64 (endE S)) h) : VD fs ms f_pack_Reader_End [.ptr R 0] h Q := by
 refine vd_start (af := C_pack_Reader_End) true rfl (yB rfl) ?_
 set_option smartUnfolding false in conv => whnf
 refine err_c hr ?_
 set_option smartUnfolding false in conv => whnf
 refine br (fun hc => ?_) (fun hc => ?_) <;> (try rw [hc]) <;> (set_option smartUnfolding false in conv => whnf)
 ·have he : S.2 = 0 := by simpa using hc
  refine left_c hr ?_
  set_option smartUnfolding false in conv => whnf
  refine br (fun hc => ?_) (fun hc => ?_) <;> (try rw [hc]) <;> (set_option smartUnfolding false in conv => whnf)
  ·have hl : S.1 ≠ [] := by intro h0; rw [h0] at hc; simp at hc
   rw [endE, if_pos he, if_neg hl] at hQ
   exact hQ
  ·have hl : S.1 = [] := by
    have := of_decide_eq_false hc
    exact List.eq_nil_of_length_eq_zero (by omega)
   refine err_c hr ?_
   set_option smartUnfolding false in conv => whnf
   rw [endE, if_pos he, if_pos hl] at hQ
   rw [he]
   exact hQ
 ·have he : S.2 ≠ 0 := by simpa using hc
  refine err_c hr ?_
  set_option smartUnfolding false in conv => whnf
  rw [endE, if_neg he] at hQ
  exact hQ
def textS (most : Int) (S : RS) : List UInt8 × RS := if (numS most S).2.2 ≠ 0 then ([], (numS most S).2) else if ((numS most S).2.1.length : Int) < (numS most S).1 then ([], [], 3) else
 (bytS ((numS most S).2.1.take (numS most S).1.toNat), (numS most S).2.1.drop (numS most S).1.toNat, 0)
theorem numS_nn {most : Int} {S : RS} (h : okB S.1) : 0 ≤ (numS most S).1 := by
 have := (rN_rng (most := most) h).1
 unfold numS
 split
 ·simp
 ·split
  ·simp
  ·exact this
theorem text1_c {P2 P4 P5 R I : Nat} {L X : List Int} {v : AV} {k : Nat} {s0 : List UInt8} {h : Heap}
  (g2 : h.get P2 = some (.cells [.ptr R 0] true 0)) (gR : h.get R = some (.cells [v, .int .i64 0] true 0)) (g5 : h.get P5 = some (.cells [.int .i64 ((k : Nat) : Int)] true 0)) (g4 : h.get P4 = some (.cells [.str s0] true 0))
  (hs : Sv I L v X) (gI : L = [] ∨ ∃ wr es, h.get I = some (.cells (bys L) wr es)) (hX : X.length < 2 ^ 62) (d5 : P5 ≠ P4) (l5 : P5 < h.next) {Q : AV → Heap → Prop}
  (hbad : X.length < k → Q (.tup [.int .i64 0, .int .i64 3]) h) (hgood : k ≤ X.length → ∀ h', h'.get P4 = some (.cells [.str (bytS (X.take k))] true 0) → Fr h h' [P4] → Q (.tup [.int .i64 ((k : Nat) : Int), .int .i64 0]) h') :
  VD fs ms f_pack_Reader_Text_1 [.ptr P2 0, .ptr P5 0, .ptr P4 0] h Q := by
 refine vd_start (af := C_pack_Reader_Text_1) true rfl (yB rfl) ?_
 set_option smartUnfolding false in conv => whnf
 refine ⟨_, ld1 g2 rfl, ?_⟩
 set_option smartUnfolding false in conv => whnf
 refine ⟨_, ld1 gR rfl, ?_⟩
 set_option smartUnfolding false in conv => whnf
 rw [hs.len]
 set_option smartUnfolding false in conv => whnf
 refine ⟨_, ld1 g5 rfl, ?_⟩
 set_option smartUnfolding false in conv => whnf
 refine br (fun hc => ?_) (fun hc => ?_) <;> (try rw [hc]) <;> (set_option smartUnfolding false in conv => whnf)
 ·have hlt : X.length < k := by have := of_decide_eq_true hc; omega
  exact hbad hlt
 ·have hle : k ≤ X.length := by have := of_decide_eq_false hc; omega
  refine ⟨_, ld1 g2 rfl, ?_⟩
  set_option smartUnfolding false in conv => whnf
  refine ⟨_, ld1 gR rfl, ?_⟩
  set_option smartUnfolding false in conv => whnf
  refine ⟨_, ld1 g5 rfl, ?_⟩
  set_option smartUnfolding false in conv => whnf
  obtain ⟨v', hp, hs'⟩ := hs.to hle
  refine ⟨_, hp, ?_⟩
  set_option smartUnfolding false in conv => whnf
  have hstr : rV .toStr [v'] h = some (.str (bytS (X.take k))) := by
   rcases gI with hL | ⟨wr, es, hg⟩
   ·rcases hs' with ⟨rfl, hx⟩ | ⟨o, j, rfl, hx⟩ | ⟨o, cap, op, rfl, q1, q2, q3, q4⟩
    ·rw [hx]; rfl
    ·rw [hx]; rfl
    ·exact absurd hL q4
   ·exact (hs'.load hg).2
  refine ⟨_, hstr, ?_⟩
  set_option smartUnfolding false in conv => whnf
  refine eff_o (sto_o g4 rfl (Nat.le_refl _) rfl) fun h1 e1 => ?_
  have g41 : h1.get P4 = some (.cells [.str (bytS (X.take k))] true 0) := by rw [e1, get_set_same]; rfl
  have f1 : Fr h h1 [P4] := by rw [e1]; exact (Fr.refl h [P4]).set (by simp)
  clear e1
  set_option smartUnfolding false in conv => whnf
  refine ⟨_, ld1 ((f1.keep P5 l5 (by simpa using d5)).trans g5) rfl, ?_⟩
  set_option smartUnfolding false in conv => whnf
  exact hgood hle h1 g41 f1
theorem text_c {R I : Nat} {L : List Int} {S : RS} {h : Heap} {most : Int} (hm : most ≤ 9007199254740991) (hr : RdP h R I L S) {Q : AV → Heap → Prop}
  (hQ : ∀ h', RdP h' R I L (textS most S).2 → Fr h h' [R] → Q (.str (textS most S).1) h') : VD fs ms f_pack_Reader_Text [.ptr R 0, .int .i64 most] h Q := by
 refine vd_begin (af := C_pack_Reader_Text) rfl (yB rfl) ?_
 set_option smartUnfolding false in conv => whnf
 refine vc_seq true ?_
 set_option smartUnfolding false in conv => whnf
 obtain ⟨H, hH⟩ : ∃ H, H = ((h.new (.cells [.ptr R 0] true 0)).new (.cells [.str []] true 0)) := ⟨_, rfl⟩
 have hf0 : Fr h H [] := by rw [hH]; exact (Fr.refl h []).new.new
 have hn0 : H.next = h.next + 2 := by rw [hH]; rfl
 have g2 : H.get h.next = some (.cells [.ptr R 0] true 0) := by
  rw [hH]
  exact (get_new_ne (show h.next < h.next + 1 by omega)).trans get_new_same
 have g4 : H.get (h.next + 1) = some (.cells [.str []] true 0) := by
  rw [hH]
  exact get_new_same (h := h.new _)
 show VC fs ms h.next false _ (Tr.node _ _ _) ((h.new (.cells [.ptr R 0] true 0)).new (.cells [.str []] true 0)) _
 rw [← hH]
 clear hH
 have hrH : RdP H R I L S := hr.keep hf0 (by simp) (.inr (by simp))
 have lR := hr.lR
 have hend : ∀ e' h' (s : List UInt8), AllAt e' [(4, .ptr (h.next + 1) 0)] → Fr h h' [R] → h'.get (h.next + 1) = some (.cells [.str s] true 0) → s = (textS most S).1 → RdP h' R I L (textS most S).2 →
   VC fs ms h.next false (.seq (.ops [zL 12 4, zS 1 [.t 4, .t 12]]) .ret) e' h' (endV C_pack_Reader_Text.results Q) := by
  intro e' h' s ha fr g hs hp
  refine vc_slots 4 _ ha (vpC_sound (z := true) ?_)
  set_option smartUnfolding false in conv => whnf
  refine ⟨_, ld1 g rfl, ?_⟩
  set_option smartUnfolding false in conv => whnf
  refine eff_o (sto_o g rfl (Nat.le_refl _) rfl) fun h2 e2 => ?_
  have gg : h2.get (h.next + 1) = some (.cells [.str s] true 0) := by rw [e2, get_set_same]; rfl
  have ff : Fr h' h2 [h.next + 1] := by rw [e2]; exact (Fr.refl h' _).set (by simp)
  have f3 : Fr h h2 [R] := by rw [e2]; exact fr.setn (by omega)
  clear e2
  set_option smartUnfolding false in conv => whnf
  refine opt_go (v := [.str s]) (res_cell rfl gg rfl) ?_
  set_option smartUnfolding false in conv => whnf
  rw [hs]
  exact hQ h2 (hr.keepN hp ff (by simp)) f3
 refine vc_seq true ?_
 set_option smartUnfolding false in conv => whnf
 refine ⟨_, ld1 g2 rfl, ?_⟩
 set_option smartUnfolding false in conv => whnf
 refine num_c hm hrH fun h2 hr2 fr2 => ?_
 have hn2 := fr2.next
 have hnn := numS_nn (most := most) hr.ok
 obtain ⟨k, hk⟩ := Int.eq_ofNat_of_zero_le hnn
 have hf2 : Fr h h2 [R] := ⟨by omega, fun c hc hn => (fr2.keep c (by omega) hn).trans (hf0.keep c hc (by simp))⟩
 have g22 : h2.get h.next = some (.cells [.ptr R 0] true 0) := (fr2.keep _ (by omega) (by simp; omega)).trans g2
 have g42 : h2.get (h.next + 1) = some (.cells [.str []] true 0) := (fr2.keep _ (by omega) (by simp; omega)).trans g4
 set_option smartUnfolding false in conv => whnf
 refine eff_o (sto_o get_new_same rfl (Nat.le_refl _) rfl) fun h3 e3 => ?_
 have f3 : Fr h2 h3 [] := by rw [e3]; exact ((Fr.refl h2 []).new).setn (Nat.le_refl _)
 have g53 : h3.get h2.next = some (.cells [.int .i64 (numS most S).1] true 0) := by rw [e3, get_set_same]; rfl
 have n3 : h3.next = h2.next + 1 := by rw [e3]; rfl
 clear e3
 have g23 := (f3.keep h.next (by omega) (by simp)).trans g22
 have g43 := (f3.keep (h.next + 1) (by omega) (by simp)).trans g42
 have hr3 : RdP h3 R I L (numS most S).2 := hr2.keep f3 (by simp) (.inr (by simp))
 have hf3 : Fr h h3 [R] := hf2.trans ⟨f3.next, fun c hc _ => f3.keep c hc (by simp)⟩
 set_option smartUnfolding false in conv => whnf
 refine vc_seq true ?_
 set_option smartUnfolding false in conv => whnf
 refine ⟨_, ld1 g23 rfl, ?_⟩
 set_option smartUnfolding false in conv => whnf
 have hr3' := hr3
 obtain ⟨⟨v, gR, hs⟩, gI, lR3, ok3, sz3⟩ := hr3
 by_cases he : (numS most S).2.2 = 0
 ·rw [he] at gR
  refine step_g gR ?_
  rw [hk] at g53
  refine text1_c (X := (numS most S).2.1) (k := k) g23 gR g53 g43 hs (gI.imp id (fun h => h.1)) sz3 (by omega) (by omega) ?_ ?_
  ·intro hlt
   have ht : textS most S = ([], [], 3) := by
    unfold textS
    rw [if_neg (by simp [he]), if_pos (by rw [hk]; exact Int.ofNat_lt.2 hlt)]
   refine ⟨0, 3, v, rfl, gR, ?_, fun h => absurd h (by decide)⟩
   intro _ h4 gg ff
   set_option smartUnfolding false in conv => whnf
   have fr4 : Fr h h4 [R] := hf3.trans ff
   exact hend _ h4 [] ⟨rfl, trivial⟩ fr4 ((ff.keep _ (by omega) (by simp; omega)).trans g43) (by rw [ht]) (hr3'.to ff (v' := .nils) (by rw [ht]; exact gg) (by rw [ht]; exact .nils) (by rw [ht]; simp) (by rw [ht]; intro n hn; simp at hn))
  ·intro hle h4 g44 f4
   have ht : textS most S = (bytS ((numS most S).2.1.take k), (numS most S).2.1.drop k, 0) := by
    unfold textS
    rw [if_neg (by simp [he]), if_neg (by rw [hk]; exact fun h => absurd (Int.ofNat_lt.1 h) (by omega)), hk]
    rfl
   have gR4 : h4.get R = some (.cells [v, .int .i64 0] true 0) := (f4.keep R lR3 (by simp; omega)).trans gR
   refine ⟨k, 0, v, rfl, gR4, fun h => absurd rfl h, fun _ => ?_⟩
   obtain ⟨v', hp, hsv⟩ := hs.from hle
   refine ⟨v', hp, hsv.cells.1, by have := hsv.cells.2.2; rw [hsv.cells.1] at this; exact this, fun h5 gg ff => ?_⟩
   set_option smartUnfolding false in conv => whnf
   have fr4 : Fr h h4 [R] := ⟨by have := f4.next; omega, fun c hc hn => (f4.keep c (by omega) (by simp; omega)).trans (hf3.keep c hc hn)⟩
   have n4 := f4.next
   have fr35 : Fr h3 h5 [R, h.next + 1] := ⟨Nat.le_trans f4.next ff.next, fun c hc hn => (ff.keep c (by omega) (by simp at hn ⊢; exact hn.1)).trans (f4.keep c hc (by simp at hn ⊢; exact hn.2))⟩
   refine hend _ h5 _ ⟨rfl, trivial⟩ (fr4.trans ff) ((ff.keep _ (by omega) (by simp; omega)).trans g44) (by rw [ht]) ?_
   have hr4 : RdP h4 R I L (numS most S).2 := hr.keepN hr3' f4 (by simp)
   exact hr4.to ff (v' := v') (by rw [ht]; exact gg) (by rw [ht]; exact hsv) (by rw [ht]; simp) (by rw [ht]; exact ok3.drop _)
 ·have ht : textS most S = ([], (numS most S).2) := by
   unfold textS
   rw [if_pos he]
  refine step_bad gR he ?_
  set_option smartUnfolding false in conv => whnf
  exact hend _ h3 [] ⟨rfl, trivial⟩ hf3 g43 (by rw [ht]) (by rw [ht]; exact hr3')
end Ir
end Go.Proofs.YtmnolnoeibhjgaaGreat
namespace Go.Proofs.YtmnolnoeibhjgaaGreat
open Go Ads
namespace Ads
section
variable {fs : Nat → Option AFunc} {ms : Nat → String → Option Nat} {B : Nat} {rd : Bool} {z : Bool}
def CallY (fs : Nat → Option AFunc) (ms : Nat → String → Option Nat) (rd : Bool) (vals : List AV) (h : Heap) (Q R : AV → Heap → Prop) : Prop :=
 (∃ v h', (∀ B, VS fs ms B (.op rd .call vals h) (.val v h')) ∧ Q v h') ∨ ∃ v h', (∀ B, VS fs ms B (.op rd .call vals h) (.pan v h')) ∧ R v h'
theorem vc_opsY {l1 l2 : List Ins} {d : Option Nat} {ags : List Rand} {e : Env} {h : Heap} {Q : AX → Env → Heap → Prop}
  (hw : vpO fs ms z l1 e h fun e1 h1 => evsK e1 ags fun vals => CallY fs ms rd vals h1 (fun v h2 => putE e1 d v fun e2 => VO fs ms B rd l2 e2 h2 fun e3 h3 => Q .normal e3 h3) fun v h2 => Q (.panic v) e1 h2) : VC fs ms B rd (.ops (l1 ++ ⟨d, none, .call, ags⟩ :: l2)) e h Q := by
 obtain ⟨tr, e1, h1, a, hk⟩ := vpO_sound (rd := rd) (B := B) hw
 obtain ⟨hj, hk⟩ := evsK_sound hk
 rcases hk with ⟨v, h2, b, hq⟩ | ⟨v, h2, b, hr⟩
 ·rw [putE_eq] at hq
  obtain ⟨tr2, e3, h3, c, hq⟩ := hq
  obtain ⟨tr3, hc⟩ := vs_app a (.on (i := ⟨d, none, .call, ags⟩) rfl hj (b B) c)
  exact ⟨_, _, _, .ops hc, hq⟩
 ·exact ⟨_, _, _, .opsP (i := ⟨d, none, .call, ags⟩) a rfl hj (b B), hr⟩
theorem vx_yield {L : Nat} {args : List AV} {h : Heap} {pend : Option AX} {e : Env} {ps : List Nat} {a A : AC} {id : Nat} {l1 : List Ins} {d : Option Nat} {ags : List Rand} {Q R : AV → Heap → Prop}
  (hg : h.get L = some (.loop 0 pend e ps a (.block id (.seq A (.ops (l1 ++ [⟨d, none, .call, ags⟩])))))) (hlen : args.length = ps.length) (hna : noRange a = true) (hnA : noRange A = true)
  (hw : VC fs ms h.next true a (putAll ps args e) h fun x e2 h2 => x = .normal ∧ ∃ pend2, h2.get L = some (.loop 0 pend2 e ps a (.block id (.seq A (.ops (l1 ++ [⟨d, none, .call, ags⟩]))))) ∧
   VC fs ms h.next true A e2 (h2.set L (.loop 1 pend2 e ps a (.block id (.seq A (.ops (l1 ++ [⟨d, none, .call, ags⟩])))))) fun x e3 h3 => x = .normal ∧
    VO fs ms h.next true l1 e3 h3 fun e4 h4 => evsK e4 ags fun vals => callK fs ms vals h4
     (fun v h5 => (∃ st4 pend4, h5.get L = some (.loop st4 pend4 e ps a (.block id (.seq A (.ops (l1 ++ [⟨d, none, .call, ags⟩])))))) ∧ Q (.bool true) (h5.set L (.loop 0 none e ps a (.block id (.seq A (.ops (l1 ++ [⟨d, none, .call, ags⟩]))))))) R) :
  CallY fs ms rd (.yield L :: args) h Q R := by
 obtain ⟨x, e2, h2, a1, rfl, pend2, g2, x3, e3, h3, a3, rfl, tr, e4, h4, a4, hk⟩ := hw
 obtain ⟨hj, hk⟩ := evsK_sound hk
 rcases callK_elim (rd := true) hk with ⟨v, h5, b, ⟨st4, pend4, g5⟩, hq⟩ | ⟨v, h5, b, hr⟩
 ·obtain ⟨tr3, hc⟩ := vs_app a4 (.on (i := ⟨d, none, .call, ags⟩) rfl hj (b h.next) .nil)
  have hb : VS fs ms h.next (.code true (.block id (.seq A (.ops (l1 ++ [⟨d, none, .call, ags⟩])))) e2 (h2.set L (.loop 1 pend2 e ps a (.block id (.seq A (.ops (l1 ++ [⟨d, none, .call, ags⟩]))))))) (.code .normal (e4.put d v) h5) :=
   .blockN (.seqN a3 (.ops hc)) (by simp)
  refine .inl ⟨.bool true, _, fun B => .opCall (.yield (x := .normal) hg hlen a1 g2 hb (by simp) g5), hq⟩
 ·exact .inr ⟨v, h5, fun B => .opCallP (.yieldP (l1 := l1) (i := ⟨d, none, .call, ags⟩) (l2 := []) hg hlen a1 hna g2 hnA a3 a4 rfl hj (b h.next)), hr⟩
theorem vc_rangeX {g : Rand} {ps : List Nat} {a b : AC} {e : Env} {h : Heap} {f : Nat} {first capt : List AV} {Q : AX → Env → Heap → Prop} (L : Nat) (hL : h.next = L) (hao : argsOk e [g] = true) (hev : Env.ev e g = .func (.func f) first capt)
  (hw : VX fs ms f (first ++ (.yield L :: capt)) (h.new (.loop 0 none e ps a b)) (fun _ h2 => ∃ x st, h2.get L = some (.loop st (pendOf x) e ps a b) ∧ st ≠ 1 ∧ (∀ v, x ≠ .panic v) ∧ Q x e (h2.set L (.loop 3 (pendOf x) e ps a b))) fun v h2 => Q (.panic v) e h2) :
  VC fs ms B false (.rangeFunc g ps a b) e h Q := by
 subst hL
 rcases hw with ⟨v, h2, hb, x, st, h3, h4, h5, h6⟩ | ⟨v, h2, hb, h6⟩
 ·exact ⟨x, e, _, .rangeFunc hao hev (hb B) h3 h4 h5, h6⟩
 ·exact ⟨.panic v, e, _, .rangeFuncP hao hev (hb B), h6⟩
end
end Ads
namespace Ir
abbrev MX : Int := 9007199254740991
def rdN : Nat → RS → List Int × RS
 | 0, S => ([], S)
 | j + 1, S => ((rdN j S).1 ++ [(numS MX (rdN j S).2).1], (numS MX (rdN j S).2).2)
theorem rdN_l : ∀ (j : Nat) (S : RS), (rdN j S).1.length = j
 | 0, S => rfl
 | j + 1, S => by simp [rdN, rdN_l j S]
def cellsT (l : List Int) : List AV := [.int .i64 (l.getD 0 0), .int .i64 (l.getD 1 0), .int .i64 (l.getD 2 0), .int .i64 (l.getD 3 0), .int .i64 (l.getD 4 0), .nils, .int .i64 0]
theorem cellsT_set {l : List Int} {j : Nat} (hl : l.length = j) (hj : j < 5) (n : Int) : Heap.splice (cellsT l) j [.int .i64 n] = cellsT (l ++ [n]) := by
 match l, j, hl, hj with
 | [], 0, _, _ => rfl
 | [a], 1, _, _ => rfl
 | [a, b], 2, _, _ => rfl
 | [a, b, c], 3, _, _ => rfl
 | [a, b, c, d], 4, _, _ => rfl
 | [], j + 1, h, _ => simp at h
 | [a], 0, h, _ => simp at h
 | [a], j + 2, h, _ => simp at h
 | [a, b], 0, h, _ => simp at h
 | [a, b], 1, h, _ => simp at h
 | [a, b], j + 3, h, _ => simp at h
 | [a, b, c], 0, h, _ => simp at h
 | [a, b, c], 1, h, _ => simp at h
 | [a, b, c], 2, h, _ => simp at h
 | [a, b, c], j + 4, h, _ => simp at h
 | [a, b, c, d], 0, h, _ => simp at h
 | [a, b, c, d], 1, h, _ => simp at h
 | [a, b, c, d], 2, h, _ => simp at h
 | [a, b, c, d], 3, h, _ => simp at h
 | [a, b, c, d], j + 5, h, hj => omega
 | a :: b :: c :: d :: e :: l, j, h, hj => simp at h; omega
def rdE (T : Nat) : Env := ek 4 [(2, .ptr T 0), (3, .ptr (T + 2) 0), (12, .func (.func f_tape_fields_1) [] [.ptr (T + 3) 0])]
structure RdQ (h0 : Heap) (I : Nat) (L : List Int) (l : List Int) (S : RS) (h : Heap) : Prop where
 fr : Fr h0 h []
 gT : h.get h0.next = some (.cells (cellsT l) true 0)
 rd : RdP h (h0.next + 1) I L S
 g3 : h.get (h0.next + 2) = some (.cells [.ptr (h0.next + 1) 0] true 0)
 gF : h.get (h0.next + 3) = some (.cells [.ptr h0.next 0] true 0)
 gL : h.get (h0.next + 4) = some (.loop 0 none (rdE h0.next) [13] L_tape_read_0a L_tape_read_0b)
 nx : h0.next + 5 ≤ h.next
 lI : L = [] ∨ I < h0.next
structure RdF (h0 : Heap) (e : Int) (h : Heap) : Prop where
 fr : Fr h0 h []
 gT : ∃ cs : List AV, cs.length = 7 ∧ h.get h0.next = some (.cells cs true 0)
 nx : h0.next + 1 ≤ h.next
theorem rd_l {h0 : Heap} {I : Nat} {L : List Int} {S0 : RS} {B : Nat} {Q : AX → Env → Heap → Prop} (hQ : ∀ e' h', RdQ h0 I L (rdN 5 S0).1 (rdN 5 S0).2 h' → (rdN 5 S0).2.2 = 0 → Q (.exit 0) e' h')
  (hP : ∀ e' h' j, j ≤ 5 → (rdN j S0).2.2 ≠ 0 → RdF h0 (rdN j S0).2.2 h' → Q (.panic (.iface errT (.int .i64 (rdN j S0).2.2))) e' h') :
  ∀ (m j : Nat) (h : Heap) (env : Env), 5 - j = m → j ≤ 5 → (rdN j S0).2.2 = 0 → RdQ h0 I L (rdN j S0).1 (rdN j S0).2 h → AllAt env [(0, .yield (h0.next + 4)), (20, .agg [.ptr h0.next 0, .ptr h0.next 1, .ptr h0.next 2, .ptr h0.next 3, .ptr h0.next 4]), (21, .int .i64 ((j : Nat) : Int))] →
   VC fs ms B false (.loop L_tape_fields_1_0) env h Q := by
 intro m
 induction m with
 | zero =>
  intro j h env hm hj hz hs henv
  have he : j = 5 := by omega
  refine vc_slots 5 _ henv ?_
  refine vc_loopV (vpC_sound (z := true) ?_)
  set_option smartUnfolding false in conv => whnf
  refine brf (by simp; omega) (fun hc => ?_)
  (try rw [hc])
  set_option smartUnfolding false in conv => whnf
  subst he
  exact hQ _ _ hs hz
 | succ m ih =>
  intro j h env hm hj hz hs henv
  have hlt : j < 5 := by omega
  refine vc_slots 5 _ henv ?_
  refine vc_loopV (vc_seq true ?_)
  set_option smartUnfolding false in conv => whnf
  refine vc_seq true ?_
  set_option smartUnfolding false in conv => whnf
  refine brt (by simp; omega) (fun hc => ?_)
  (try rw [hc])
  set_option smartUnfolding false in conv => whnf
  refine vc_seqV (vc_block (vc_seq true ?_))
  set_option smartUnfolding false in conv => whnf
  refine ⟨_, idx_ptrs hlt, ?_⟩
  set_option smartUnfolding false in conv => whnf
  refine vc_seqV ?_
  obtain ⟨fr, gT, rd, g3, gF, gL, nx, lI⟩ := hs
  have hjl := rdN_l j S0
  have hnS : rdN (j + 1) S0 = ((rdN j S0).1 ++ [(numS MX (rdN j S0).2).1], (numS MX (rdN j S0).2).2) := rfl
  have hP' := fun e' h' => hP e' h' (j + 1) (by omega)
  have hlen5 : (cellsT (rdN j S0).1).length = 7 := rfl
  have hset := fun n => cellsT_set hjl hlt n
  generalize (rdN j S0).1 = l at *
  generalize (rdN j S0).2 = S at *
  show VC fs ms B false (.ops ([zM 24 0, zM 25 4] ++ ⟨some 26, none, .call, [.t 24, .t 25]⟩ :: [zP 27 .not [.t 26]])) _ _ _
  refine vc_opsY (z := true) ?_
  set_option smartUnfolding false in conv => whnf
  refine vx_yield (A := .ops [zM 14 4, zL 15 3, ⟨some 16, none, .call, [.c (.func (.func 32) [] []), .t 15, .c (.int .i64 9007199254740991)]⟩, zN 17 14, zS 1 [.t 17, .t 16]]) (id := 1) (l1 := [zL 18 3]) (d := some 19) (ags := [.c (.func (.func 52) [] []), .t 18]) gL rfl rfl rfl ?_
  refine vpC_sound (z := true) ?_
  set_option smartUnfolding false in conv => whnf
  refine ⟨rfl, none, gL, ?_⟩
  obtain ⟨H, hH⟩ : ∃ H, H = h.set (h0.next + 4) (.loop 1 none (rdE h0.next) [13] L_tape_read_0a L_tape_read_0b) := ⟨_, rfl⟩
  have hHf : Fr h H [h0.next + 4] := by rw [hH]; exact (Fr.refl h _).set (by simp)
  have gT1 : H.get h0.next = some (.cells (cellsT l) true 0) := (hHf.keep _ (by omega) (by simp)).trans gT
  have g31 : H.get (h0.next + 2) = some (.cells [.ptr (h0.next + 1) 0] true 0) := (hHf.keep _ (by omega) (by simp)).trans g3
  have gF1 : H.get (h0.next + 3) = some (.cells [.ptr h0.next 0] true 0) := (hHf.keep _ (by omega) (by simp)).trans gF
  have gL1 : H.get (h0.next + 4) = some (.loop 1 none (rdE h0.next) [13] L_tape_read_0a L_tape_read_0b) := by rw [hH, get_set_same]
  have rd1 : RdP H (h0.next + 1) I L S := rd.keep hHf (by simp) (lI.imp id (fun h => by simp; omega))
  have f1 : Fr h0 H [] := by rw [hH]; exact fr.setn (by omega)
  have n1 : H.next = h.next := by rw [hH]; rfl
  show VC fs ms h.next true _ _ (h.set (h0.next + 4) (.loop 1 none (rdE h0.next) [13] L_tape_read_0a L_tape_read_0b)) _
  rw [← hH]
  clear hH
  refine vpC_sound (z := true) ?_
  set_option smartUnfolding false in conv => whnf
  refine ⟨_, ld1 g31 rfl, ?_⟩
  set_option smartUnfolding false in conv => whnf
  refine num_c (by decide) rd1 fun h2 rd2 fr2 => ?_
  set_option smartUnfolding false in conv => whnf
  have n2 := fr2.next
  have gT2 : h2.get h0.next = some (.cells (cellsT l) true 0) := (fr2.keep _ (by omega) (by simp)).trans gT1
  refine eff_o (sto_o gT2 rfl (by rw [hlen5]; omega) rfl) fun h3 e3 => ?_
  have f3 : Fr h2 h3 [h0.next] := by rw [e3]; exact (Fr.refl h2 _).set (by simp)
  have n3 : h3.next = h2.next := by rw [e3]; rfl
  have gT3 : h3.get h0.next = some (.cells (cellsT (l ++ [(numS MX S).1])) true 0) := by
   rw [e3, get_set_same]
   have := hset (numS MX S).1
   show some (Blk.cells (Heap.splice (cellsT l) j [AV.int .i64 (numS MX S).1]) true 0) = _
   rw [this]
  have f1n := f1.next
  have f3' : Fr h0 h3 [] := ⟨by omega, fun c hc _ => (f3.keep c (by omega) (by simp; omega)).trans ((fr2.keep c (by omega) (by simp; omega)).trans (f1.keep c hc (by simp)))⟩
  clear e3
  have g33 : h3.get (h0.next + 2) = some (.cells [.ptr (h0.next + 1) 0] true 0) := (f3.keep _ (by omega) (by simp)).trans ((fr2.keep _ (by omega) (by simp)).trans g31)
  have gF3 : h3.get (h0.next + 3) = some (.cells [.ptr h0.next 0] true 0) := (f3.keep _ (by omega) (by simp)).trans ((fr2.keep _ (by omega) (by simp)).trans gF1)
  have gL3 : h3.get (h0.next + 4) = some (.loop 1 none (rdE h0.next) [13] L_tape_read_0a L_tape_read_0b) := (f3.keep _ (by omega) (by simp)).trans ((fr2.keep _ (by omega) (by simp)).trans gL1)
  have rd3 : RdP h3 (h0.next + 1) I L (numS MX S).2 := rd2.keep f3 (by simp) (lI.imp id (fun h => by simp; omega))
  set_option smartUnfolding false in conv => whnf
  refine ⟨rfl, ?_⟩
  refine vpO_sound (z := true) ?_
  set_option smartUnfolding false in conv => whnf
  refine ⟨_, ld1 g33 rfl, ?_⟩
  set_option smartUnfolding false in conv => whnf
  refine must_c rd3 (fun hz2 => ?_) (fun hne => ?_)
  ·refine ⟨⟨1, none, gL3⟩, ?_⟩
   set_option smartUnfolding false in conv => whnf
   refine vpO_sound (z := true) ?_
   set_option smartUnfolding false in conv => whnf
   refine vpC_sound (z := true) ?_
   set_option smartUnfolding false in conv => whnf
   refine vpC_sound (z := true) ?_
   set_option smartUnfolding false in conv => whnf
   obtain ⟨h4, hH4⟩ : ∃ h4, h4 = h3.set (h0.next + 4) (.loop 0 none (rdE h0.next) [13] L_tape_read_0a L_tape_read_0b) := ⟨_, rfl⟩
   have f4 : Fr h3 h4 [h0.next + 4] := by rw [hH4]; exact (Fr.refl h3 _).set (by simp)
   show VC fs ms B false _ _ (h3.set (h0.next + 4) (.loop 0 none (rdE h0.next) [13] L_tape_read_0a L_tape_read_0b)) _
   rw [← hH4]
   have n4 : h4.next = h3.next := by rw [hH4]; rfl
   refine ih (j + 1) h4 _ (by omega) (by omega) (by rw [hnS]; exact hz2) ?_ ⟨rfl, rfl, inc_slot (by omega), trivial⟩
   rw [hnS]
   refine ⟨⟨by omega, fun c hc _ => (f4.keep c (by omega) (by simp; omega)).trans (f3'.keep c hc (by simp))⟩, (f4.keep _ (by omega) (by simp)).trans gT3, rd3.keep f4 (by simp) (lI.imp id (fun h => by simp; omega)), (f4.keep _ (by omega) (by simp)).trans g33, (f4.keep _ (by omega) (by simp)).trans gF3, by rw [hH4, get_set_same], by omega, lI⟩
  ·set_option smartUnfolding false in conv => whnf
   have := fun e' => hP' e' h3 (by rw [hnS]; exact hne) (by rw [hnS]; exact ⟨f3', ⟨_, rfl, gT3⟩, by omega⟩)
   simp only [hnS] at this
   exact this _
def Met (S0 : RS) (e : Int) : Prop := ∃ j, j ≤ 5 ∧ (rdN j S0).2.2 ≠ 0 ∧ e = (rdN j S0).2.2
theorem rdf_c {h0 : Heap} {I : Nat} {L : List Int} {S0 : RS} {h : Heap} (hz : S0.2 = 0) (hs : RdQ h0 I L [] S0 h) : VX fs ms f_tape_fields_1 [.yield (h0.next + 4), .ptr (h0.next + 3) 0] h (fun _ h2 => RdQ h0 I L (rdN 5 S0).1 (rdN 5 S0).2 h2 ∧ (rdN 5 S0).2.2 = 0) (fun v h2 => ∃ e, Met S0 e ∧ v = .iface errT (.int .i64 e) ∧ RdF h0 e h2) := by
 refine vx_begin (af := C_tape_fields_1) rfl (yB rfl) ?_
 set_option smartUnfolding false in conv => whnf
 refine vc_seq true ?_
 set_option smartUnfolding false in conv => whnf
 repeat (first | (refine ⟨_, ld1 hs.gF rfl, ?_⟩; set_option smartUnfolding false in conv => whnf))
 refine vc_block ?_
 refine rd_l (h0 := h0) (I := I) (L := L) (S0 := S0) ?_ ?_ 5 0 _ _ rfl (Nat.zero_le _) hz hs ⟨rfl, rfl, rfl, trivial⟩
 ·intro e' h' hs' hz'
  exact ⟨[], rfl, hs', hz'⟩
 ·intro e' h' j hj hne hf
  exact ⟨_, ⟨j, hj, hne, rfl⟩, rfl, hf⟩
def opS (S : RS) : TOp × RS := (⟨(numS MX S).1, (numS MX (numS MX S).2).1, (textS 16 (numS MX (numS MX S).2).2).1⟩, (textS 16 (numS MX (numS MX S).2).2).2)
def opsN : Nat → RS → List TOp × RS
 | 0, S => ([], S)
 | j + 1, S => ((opsN j S).1 ++ [(opS (opsN j S).2).1], (opS (opsN j S).2).2)
def manyS (X : List Int) : Int × RS := numS 32 (rdN 5 (X, 0)).2
def finS (X : List Int) : List TOp × RS := opsN (manyS X).1.toNat (manyS X).2
def readE (X : List Int) : Int := endE (finS X).2
theorem numS_st {m : Int} {S : RS} (h : S.2 ≠ 0) : numS m S = (0, S) := by unfold numS; rw [if_pos h]
theorem textS_st {m : Int} {S : RS} (h : S.2 ≠ 0) : textS m S = ([], S) := by unfold textS; rw [numS_st h, if_pos h]
theorem opS_st {S : RS} (h : S.2 ≠ 0) : (opS S).2 = S := by
 unfold opS
 rw [numS_st h]
 simp only [numS_st h, textS_st h]
theorem opsN_st {S : RS} {j : Nat} (h : (opsN j S).2.2 ≠ 0) : ∀ k, (opsN (j + k) S).2 = (opsN j S).2
 | 0 => rfl
 | k + 1 => by
  have ih := opsN_st h k
  show (opS (opsN (j + k) S).2).2 = _
  rw [ih, opS_st h]
theorem rdN_st {S : RS} {j : Nat} (h : (rdN j S).2.2 ≠ 0) : ∀ k, (rdN (j + k) S).2 = (rdN j S).2
 | 0 => rfl
 | k + 1 => by
  have ih := rdN_st h k
  show (numS MX (rdN (j + k) S).2).2 = _
  rw [ih, numS_st h]
theorem many_met {X : List Int} (h : (manyS X).2.2 ≠ 0) (hm : (manyS X).1 = 0) : readE X = (manyS X).2.2 := by
 unfold readE finS
 rw [hm]
 show endE (manyS X).2 = _
 unfold endE
 rw [if_neg h]
theorem numS_bad0 {m : Int} {S : RS} (h : (numS m S).2.2 ≠ 0) : (numS m S).1 = 0 := by
 unfold numS at h ⊢
 split
 ·rfl
 ·rename_i h1
  rw [if_neg h1] at h
  split
  ·rfl
  ·rename_i h2
   rw [if_neg h2] at h
   exact absurd rfl h
theorem met_e {X : List Int} {e : Int} (h : Met (X, 0) e) : readE X = e ∧ e ≠ 0 := by
 obtain ⟨j, hj, hne, rfl⟩ := h
 have h5 : (rdN 5 (X, 0)).2 = (rdN j (X, 0)).2 := by
  have := rdN_st hne (5 - j)
  rwa [show j + (5 - j) = 5 by omega] at this
 have hm : manyS X = (0, (rdN j (X, 0)).2) := by
  unfold manyS
  rw [h5, numS_st hne]
 refine ⟨?_, hne⟩
 rw [many_met (by rw [hm]; exact hne) (by rw [hm]), hm]
theorem opsN_met {X : List Int} {j : Nat} (hj : j ≤ (manyS X).1.toNat) (hne : (opsN j (manyS X).2).2.2 ≠ 0) : readE X = (opsN j (manyS X).2).2.2 := by
 have := opsN_st hne ((manyS X).1.toNat - j)
 rw [show j + ((manyS X).1.toNat - j) = (manyS X).1.toNat by omega] at this
 unfold readE finS
 rw [this]
 unfold endE
 rw [if_neg hne]
theorem opsN_l : ∀ (j : Nat) (S : RS), (opsN j S).1.length = j
 | 0, S => rfl
 | j + 1, S => by simp [opsN, opsN_l j S]
theorem numS_le {m : Int} {S : RS} (h : okB S.1) (hm : 0 ≤ m) : (numS m S).1 ≤ m := by
 have := (rN_rng (most := m) h).2.2
 unfold numS
 split
 ·exact hm
 ·split
  ·exact hm
  ·rename_i h2
   exact this (by simpa using h2)
def cellsW (l : List Int) (w : AV) : List AV := [.int .i64 (l.getD 0 0), .int .i64 (l.getD 1 0), .int .i64 (l.getD 2 0), .int .i64 (l.getD 3 0), .int .i64 (l.getD 4 0), w, .int .i64 0]
theorem flat_W {l : List Int} {w : AV} (hc : w.cells = [w]) (h : flatL w.cells = true) : flatL (AV.agg (cellsW l w)).cells = true := by
 rw [hc] at h
 exact h
structure RdO (h0 : Heap) (I : Nat) (L : List Int) (l : List Int) (acc : List TOp) (S : RS) (h : Heap) : Prop where
 fr : Fr h0 h []
 gT : ∃ w, h.get h0.next = some (.cells (cellsW l w) true 0) ∧ GR 3 (h0.next + 5) h w (tops acc)
 rd : RdP h (h0.next + 1) I L S
 g3 : h.get (h0.next + 2) = some (.cells [.ptr (h0.next + 1) 0] true 0)
 nx : h0.next + 5 ≤ h.next
 lI : L = [] ∨ I < h0.next
theorem GR.own {s lo : Nat} {h : Heap} {v : AV} {M : List AV} (hr : GR s lo h v M) {d : Nat} (ho : OwnB v d) : lo ≤ d ∧ d < h.next := by
 obtain ⟨o, n, c, p, rfl⟩ := ho
 rcases hr with ⟨_, h⟩ | ⟨_, b, h1, h2, h3, _⟩
 ·simp at h
 ·simp only [AV.sl.injEq] at h3
  obtain ⟨rfl, _⟩ := h3
  exact ⟨h1, h2⟩
theorem GR.one {s lo : Nat} {h : Heap} {v : AV} {M : List AV} (hr : GR s lo h v M) : v.cells = [v] ∧ v.cells.length = 1 ∧ flatL v.cells = true := by
 rcases hr with ⟨_, rfl⟩ | ⟨_, b, _, _, rfl, _⟩
 ·exact ⟨rfl, rfl, rfl⟩
 ·exact ⟨rfl, rfl, rfl⟩
theorem GR.appO {s bytes lo : Nat} {h : Heap} {v : AV} {M : List AV} (hr : GR s lo h v M) {x : AV} (hx : x.cells.length = s) (hf : flatL x.cells = true) (hs : allSize s M = true) (hl : (M.length + 1) * bytes ≤ 140737488355328) (hm : M.length + 1 ≤ 140737488355328) :
  ∃ v' g', eV (.append s bytes) [v, .sl h.next 0 1 1 false] (h.new (.cells x.cells true 0)) = some (v', g') ∧ GR s h.next g' v' (M ++ [x]) ∧ h.next ≤ g'.next ∧ ∀ d, d < h.next → ¬ OwnB v d → g'.get d = h.get d := by
 have hsrc : srcV s (h.new (.cells x.cells true 0)) (.sl h.next 0 1 1 false) = some (1, x.cells) := src_nv get_new_same (by omega)
 have hfa : flatCells (M ++ [x]) = flatCells M ++ x.cells := by rw [flat_app]; simp [flatCells]
 rcases hr with ⟨h1, h2⟩ | ⟨hne0, b, h1, h2, h3, h4⟩
 ·subst h1 h2
  have := app_nilsG (bytes := bytes) hsrc hf (by simpa using hl) (by omega)
  rw [if_neg (by omega)] at this
  refine ⟨_, _, this, .inr ⟨by simp, h.next + 1, by omega, Nat.lt_succ_self _, rfl, ?_⟩, by show h.next ≤ h.next + 1 + 1; omega, fun c hc _ => ?_⟩
  ·rw [hfa]; exact get_new_same (h := h.new (.cells x.cells true 0))
  ·exact (get_new_ne (h := h.new (.cells x.cells true 0)) (show c < h.next + 1 by omega)).trans (get_new_ne (by omega))
 ·subst h3
  have hg : (h.new (.cells x.cells true 0)).get b = some (.cells (flatCells M) true s) := by rw [get_new_ne h2]; exact h4
  refine ⟨_, _, app_oneB hg (flat_size hs) hsrc hf hl hm, .inr ⟨by simp, h.next + 1, by omega, Nat.lt_succ_self _, by rw [List.length_append]; rfl, ?_⟩, by show h.next ≤ h.next + 1 + 1; omega, fun c hc ho => ?_⟩
  ·have := get_new_same (h := (h.new (.cells x.cells true 0)).del b) (x := .cells (flatCells M ++ x.cells) true s)
   rw [show ((h.new (.cells x.cells true 0)).del b).next = h.next + 1 from rfl] at this
   rw [this, hfa]
  ·have hne : c ≠ b := by rintro rfl; exact ho ⟨_, _, _, _, rfl⟩
   exact (get_new_ne (h := (h.new (.cells x.cells true 0)).del b) (show c < h.next + 1 by omega)).trans ((get_del_ne2 hne).trans (get_new_ne (by omega)))
theorem rdo_l {h0 : Heap} {I : Nat} {L : List Int} {l : List Int} {S0 : RS} {n : Nat} (hn : n ≤ 32) {B : Nat} {Q : AX → Env → Heap → Prop} (hQ : ∀ e' h', RdO h0 I L l (opsN n S0).1 (opsN n S0).2 h' → (opsN n S0).2.2 = 0 → AllAt e' [(2, .ptr h0.next 0), (3, .ptr (h0.next + 2) 0)] → Q (.exit 2) e' h')
  (hP : ∀ e' h' j, j ≤ n → (opsN j S0).2.2 ≠ 0 → RdF h0 (opsN j S0).2.2 h' → Tr.get e' 2 = some (.ptr h0.next 0) → Q (.panic (.iface errT (.int .i64 (opsN j S0).2.2))) e' h') :
  ∀ (m j : Nat) (h : Heap) (env : Env), n - j = m → j ≤ n → (opsN j S0).2.2 = 0 → RdO h0 I L l (opsN j S0).1 (opsN j S0).2 h → AllAt env [(2, .ptr h0.next 0), (3, .ptr (h0.next + 2) 0), (24, .int .i64 ((n : Nat) : Int)), (25, .int .i64 ((j : Nat) : Int))] →
   VC fs ms B false (.loop L_tape_read_1) env h Q := by
 intro m
 induction m with
 | zero =>
  intro j h env hm hj hz hs henv
  have he : j = n := by omega
  refine vc_slots 5 _ henv ?_
  refine vc_loopV (vpC_sound (z := true) ?_)
  set_option smartUnfolding false in conv => whnf
  refine brf (by simp; omega) (fun hc => ?_)
  (try rw [hc])
  set_option smartUnfolding false in conv => whnf
  subst he
  exact hQ _ _ hs hz ⟨rfl, rfl, trivial⟩
 | succ m ih =>
  intro j h env hm hj hz hs henv
  have hlt : j < n := by omega
  refine vc_slots 5 _ henv ?_
  refine vc_loopV (vc_seq true ?_)
  set_option smartUnfolding false in conv => whnf
  refine vc_seq true ?_
  set_option smartUnfolding false in conv => whnf
  refine brt (by simp; omega) (fun hc => ?_)
  (try rw [hc])
  set_option smartUnfolding false in conv => whnf
  obtain ⟨fr, ⟨w, gT, gr⟩, rd, g3, nx, lI⟩ := hs
  have hjl := opsN_l j S0
  have hnS : opsN (j + 1) S0 = ((opsN j S0).1 ++ [(opS (opsN j S0).2).1], (opS (opsN j S0).2).2) := rfl
  have hP' := fun e' h' => hP e' h' (j + 1) (by omega)
  generalize (opsN j S0).1 = acc at *
  generalize (opsN j S0).2 = S at *
  refine vc_seqV (vc_block (vc_seq true ?_))
  set_option smartUnfolding false in conv => whnf
  refine ⟨_, ld1 g3 rfl, ?_⟩
  set_option smartUnfolding false in conv => whnf
  refine num_c (by decide) rd fun h1 rd1 fr1 => ?_
  have n1 := fr1.next
  set_option smartUnfolding false in conv => whnf
  refine eff_o (sto_o get_new_same rfl (Nat.le_refl _) rfl) fun h2 e2 => ?_
  have f2 : Fr h1 h2 [] := by rw [e2]; exact ((Fr.refl h1 []).new).setn (Nat.le_refl _)
  have n2 : h2.next = h1.next + 1 := by rw [e2]; rfl
  have g62 : h2.get h1.next = some (.cells [.int .i64 (numS MX S).1, .int .i64 0, .str []] true 0) := by rw [e2, get_set_same]; rfl
  clear e2
  have rd2 := rd1.keep f2 (by simp) (.inr (by simp))
  have fk2 : ∀ c, c < h.next → c ≠ h0.next + 1 → h2.get c = h.get c := fun c hc hn => (f2.keep c (by omega) (by simp)).trans (fr1.keep c hc (by simp; omega))
  set_option smartUnfolding false in conv => whnf
  refine vc_seq true ?_
  set_option smartUnfolding false in conv => whnf
  refine ⟨_, ld1 ((fk2 _ (by omega) (by omega)).trans g3) rfl, ?_⟩
  set_option smartUnfolding false in conv => whnf
  refine num_c (by decide) rd2 fun h3 rd3 fr3 => ?_
  have n3 := fr3.next
  set_option smartUnfolding false in conv => whnf
  have g63 := (fr3.keep h1.next (by omega) (by simp; omega)).trans g62
  refine eff_o (sto_o g63 rfl (by simp) rfl) fun h4 e4 => ?_
  have f4 : Fr h3 h4 [h1.next] := by rw [e4]; exact (Fr.refl h3 _).set (by simp)
  have n4 : h4.next = h3.next := by rw [e4]; rfl
  have g64 : h4.get h1.next = some (.cells [.int .i64 (numS MX S).1, .int .i64 (numS MX (numS MX S).2).1, .str []] true 0) := by rw [e4, get_set_same]; rfl
  clear e4
  have rd4 := rd3.keep f4 (by simp; omega) (lI.imp id (fun h => by simp; omega))
  have fk4 : ∀ c, c < h.next → c ≠ h0.next + 1 → h4.get c = h.get c := fun c hc hn => (f4.keep c (by omega) (by simp; omega)).trans ((fr3.keep c (by omega) (by simp; omega)).trans (fk2 c hc hn))
  set_option smartUnfolding false in conv => whnf
  refine vc_seq true ?_
  set_option smartUnfolding false in conv => whnf
  refine ⟨_, ld1 ((fk4 _ (by omega) (by omega)).trans g3) rfl, ?_⟩
  set_option smartUnfolding false in conv => whnf
  refine text_c (by decide) rd4 fun h5 rd5 fr5 => ?_
  have n5 := fr5.next
  set_option smartUnfolding false in conv => whnf
  have g65 := (fr5.keep h1.next (by omega) (by simp; omega)).trans g64
  refine eff_o (sto_o g65 rfl (by simp) rfl) fun h6 e6 => ?_
  have f6 : Fr h5 h6 [h1.next] := by rw [e6]; exact (Fr.refl h5 _).set (by simp)
  have n6 : h6.next = h5.next := by rw [e6]; rfl
  have g66 : h6.get h1.next = some (.cells (top (opS S).1).cells true 0) := by rw [e6, get_set_same]; rfl
  clear e6
  have rd6 : RdP h6 (h0.next + 1) I L (opS S).2 := rd5.keep f6 (by simp; omega) (lI.imp id (fun h => by simp; omega))
  have fk6 : ∀ c, c < h.next → c ≠ h0.next + 1 → h6.get c = h.get c := fun c hc hn => (f6.keep c (by omega) (by simp; omega)).trans ((fr5.keep c (by omega) (by simp; omega)).trans (fk4 c hc hn))
  have fr6 : Fr h0 h6 [] := ⟨by omega, fun c hc _ => (fk6 c (by omega) (by omega)).trans (fr.keep c hc (by simp))⟩
  have gr6 : GR 3 (h0.next + 5) h6 w (tops acc) := by
   rcases gr with h | ⟨hne, b, b1, b2, b3, b4⟩
   ·exact .inl h
   ·exact .inr ⟨hne, b, b1, by omega, b3, (fk6 b b2 (by omega)).trans b4⟩
  set_option smartUnfolding false in conv => whnf
  refine vc_seqV (vc_opsX (z := true) rfl ?_)
  set_option smartUnfolding false in conv => whnf
  refine ⟨_, ld1 ((fk6 _ (by omega) (by omega)).trans g3) rfl, ?_⟩
  set_option smartUnfolding false in conv => whnf
  refine must_c rd6 (fun hz2 => ?_) (fun hne => ?_)
  ·set_option smartUnfolding false in conv => whnf
   refine vpC_sound (z := true) ?_
   set_option smartUnfolding false in conv => whnf
   have gT6 := (fk6 h0.next (by omega) (by omega)).trans gT
   refine ⟨_, ld1 gT6 rfl, ?_⟩
   set_option smartUnfolding false in conv => whnf
   refine ⟨top (opS S).1, ldN g66 (Nat.le_refl _), ?_⟩
   set_option smartUnfolding false in conv => whnf
   obtain ⟨w', g', ha, hr', hn', hk'⟩ := GR.appO (bytes := 32) gr6 (x := top (opS S).1) rfl rfl (size_tops acc) (by rw [len_tops]; omega) (by rw [len_tops]; omega)
   refine ⟨_, _, ha, ?_⟩
   set_option smartUnfolding false in conv => whnf
   obtain ⟨c1, c2, c3⟩ := GR.one hr'
   have gTg : g'.get h0.next = some (.cells (cellsW l w) true 0) := (hk' _ (by omega) (fun hw => by have := (GR.own gr6 hw).1; omega)).trans gT6
   refine eff_o (sto_o gTg c2 (by show 0 + 0 + 5 + 1 ≤ 7; omega) c3) fun h7 e7 => ?_
   have f7 : Fr g' h7 [h0.next] := by rw [e7]; exact (Fr.refl g' _).set (by simp)
   have n7 : h7.next = g'.next := by rw [e7]; rfl
   have gT7 : h7.get h0.next = some (.cells (cellsW l w') true 0) := by rw [e7, get_set_same, c1]; rfl
   clear e7
   have own6 : ∀ d, d < h0.next + 5 → ¬ OwnB w d := fun d hd hw => by have := (GR.own gr6 hw).1; omega
   have rdg : RdP g' (h0.next + 1) I L (opS S).2 := by
    obtain ⟨⟨v, q1, q2⟩, q3, q4, q5, q6⟩ := rd6
    refine ⟨⟨v, (hk' _ q4 (own6 _ (by omega))).trans q1, q2⟩, ?_, Nat.lt_of_lt_of_le q4 hn', q5, q6⟩
    rcases q3 with h | ⟨⟨wr, es, k1⟩, k2, k3⟩
    ·exact .inl h
    ·rcases lI with h | h
     ·exact .inl h
     ·exact .inr ⟨⟨wr, es, (hk' _ k3 (fun hw => by have := (GR.own gr6 hw).1; omega)).trans k1⟩, k2, Nat.lt_of_lt_of_le k3 hn'⟩
   set_option smartUnfolding false in conv => whnf
   refine vpC_sound (z := true) ?_
   set_option smartUnfolding false in conv => whnf
   refine ih (j + 1) h7 _ (by omega) (by omega) (by rw [hnS]; exact hz2) ?_ ⟨rfl, rfl, rfl, inc_slot (by omega), trivial⟩
   rw [hnS]
   refine ⟨⟨by omega, fun c hc _ => (f7.keep c (by omega) (by simp; omega)).trans ((hk' c (by omega) (own6 c (by omega))).trans (fr6.keep c hc (by simp)))⟩, ⟨w', gT7, ?_⟩, rdg.keep f7 (by simp) (lI.imp id (fun h => by simp; omega)), ?_, by omega, lI⟩
   ·have h8 : GR 3 (h0.next + 5) g' w' (tops (acc ++ [(opS S).1])) := by
     rw [tops, List.map_append]
     exact hr'.low (by omega)
    exact h8.keep f7 (by simp)
   ·exact (f7.keep _ (by omega) (by simp)).trans ((hk' _ (by omega) (own6 _ (by omega))).trans ((fk6 _ (by omega) (by omega)).trans g3))
  ·set_option smartUnfolding false in conv => whnf
   have := fun e' => hP' e' h6 (by rw [hnS]; exact hne) (by rw [hnS]; exact ⟨fr6, ⟨_, rfl, (fk6 h0.next (by omega) (by omega)).trans gT⟩, by omega⟩)
   simp only [hnS] at this
   exact this _ rfl
theorem res_cellN {e : Env} {h : Heap} {a b o n es : Nat} {wr : Bool} {vs : List AV} (ha : Tr.get e a = some (.ptr b o)) (hg : h.get b = some (.cells vs wr es)) (hl : o + n ≤ vs.length) : resAllV e h [.cell a n true] = some [.agg ((vs.drop o).take n)] := by
 have : h.loadN b o n = some ((vs.drop o).take n) := by
  have := loadN_some hg hl
  rw [this]
 simp only [resAllV, resOfV, ha, cond_true, this, Option.map_some]
def cellsR (X : List Int) (w : AV) : List AV := if readE X = 0 then cellsW (rdN 5 (X, 0)).1 w else [.int .i64 0, .int .i64 0, .int .i64 0, .int .i64 0, .int .i64 0, .nils, .int .i64 (readE X)]
def resO (X : List Int) : List TOp := if readE X = 0 then (finS X).1 else []
theorem read_c {I : Nat} {L X : List Int} {v : AV} {h : Heap} (hs : SvP h I L v X) {Q : AV → Heap → Prop} (hQ : ∀ w h', Fr h h' [] → GR 3 h.next h' w (tops (resO X)) → Q (.agg (cellsR X w)) h') : VD fs ms f_tape_read [v] h Q := by
 refine vd_callD (af := C_tape_read) (l1 := [⟨some 8, none, .p (.mkfunc (.func f_tape_read_1) 0), [.t 2]⟩]) (dst := none) (r := .t 8) (g := f_tape_read_1) (ag := C_tape_read_1) (t := 2) (l2 := [⟨some 1, none, .p .mov, [.t 2]⟩]) (first := []) (capt := [.ptr h.next 0])
  rfl (yB rfl) rfl rfl rfl (yB rfl) rfl rfl rfl rfl ?_
 set_option smartUnfolding false in conv => whnf
 refine vpC_sound (z := true) ?_
 set_option smartUnfolding false in conv => whnf
 have lI : L = [] ∨ I < h.next := hs.gI.imp id (fun h => h.2)
 obtain ⟨h1, hH1⟩ : ∃ h1, h1 = h.new (.cells (cellsT []) true 0) := ⟨_, rfl⟩
 have g1 : h1.get h.next = some (.cells (cellsT []) true 0) := by rw [hH1]; exact get_new_same
 have fr1 : Fr h h1 [] := by rw [hH1]; exact (Fr.refl h []).new
 have n1 : h1.next = h.next + 1 := by rw [hH1]; rfl
 have hs1 : SvP h1 I L v X := hs.keep fr1 (.inr (by simp))
 refine ⟨rfl, vpO_sound (z := true) ?_⟩
 set_option smartUnfolding false in conv => whnf
 refine ⟨rfl, rfl, ?_⟩
 show VC fs ms _ _ _ _ (h.new (.cells (cellsT []) true 0)) _
 rw [← hH1]
 clear hH1
 refine VC.mono (Q := fun x e3 h3 => Tr.get e3 2 = some (.ptr h.next 0) ∧ ((x = .ret ∧ readE X = 0 ∧ ∃ w, Fr h h3 [] ∧ h3.get h.next = some (.cells (cellsW (rdN 5 (X, 0)).1 w) true 0) ∧ GR 3 (h.next + 5) h3 w (tops (finS X).1)) ∨ (∃ e, x = .panic (.iface errT (.int .i64 e)) ∧ readE X = e ∧ e ≠ 0 ∧ RdF h e h3))) ?_ ?_
 ·clear hQ
  refine vc_slots 4 [(0, v), (2, .ptr h.next 0)] ⟨rfl, rfl, trivial⟩ ?_
  refine vc_seq true ?_
  set_option smartUnfolding false in conv => whnf
  refine read0_c hs1 fun h2 rd2 fr2 n2 => ?_
  rw [n1] at rd2
  set_option smartUnfolding false in conv => whnf
  refine eff_o (sto_o get_new_same rfl (Nat.le_refl _) rfl) fun h3 e3 => ?_
  have hn2 : h2.next = h.next + 2 := by omega
  have f3 : Fr h2 h3 [] := by rw [e3]; exact ((Fr.refl h2 []).new).setn (Nat.le_refl _)
  have n3 : h3.next = h.next + 3 := by rw [e3]; show h2.next + 1 = _; omega
  have g33 : h3.get (h.next + 2) = some (.cells [.ptr (h.next + 1) 0] true 0) := by rw [e3, ← hn2, get_set_same, ← n1]; rfl
  clear e3
  have g13 : h3.get h.next = some (.cells (cellsT []) true 0) := (f3.keep _ (by omega) (by simp)).trans ((fr2.keep _ (by omega) (by simp)).trans g1)
  have rd3 := rd2.keep f3 (by simp) (.inr (by simp))
  have f03 : Fr h h3 [] := fr1.trans (fr2.trans f3)
  set_option smartUnfolding false in conv => whnf
  refine vc_seqV (vc_seq true ?_)
  set_option smartUnfolding false in conv => whnf
  refine fields_c ?_
  obtain ⟨h4, hH4⟩ : ∃ h4, h4 = h3.new (.cells [.ptr h.next 0] true 0) := ⟨_, rfl⟩
  have f4 : Fr h3 h4 [] := by rw [hH4]; exact (Fr.refl h3 []).new
  have n4 : h4.next = h.next + 4 := by rw [hH4]; show h3.next + 1 = _; omega
  have g4F : h4.get (h.next + 3) = some (.cells [.ptr h.next 0] true 0) := by rw [hH4, ← n3]; exact get_new_same
  set_option smartUnfolding false in conv => whnf
  show VC fs ms _ _ _ _ (h3.new (.cells [.ptr h.next 0] true 0)) _
  rw [← hH4]
  clear hH4
  refine vc_block ?_
  refine vc_slots 4 [(2, .ptr h.next 0), (3, .ptr (h.next + 2) 0), (12, .func (.func f_tape_fields_1) [] [.ptr (h.next + 3) 0])] ⟨rfl, by rw [← hn2]; rfl, by rw [← n3]; rfl, trivial⟩ ?_
  refine vc_rangeX (h.next + 4) n4 rfl rfl ?_
  obtain ⟨h5, hH5⟩ : ∃ h5, h5 = h4.new (.loop 0 none (rdE h.next) [13] L_tape_read_0a L_tape_read_0b) := ⟨_, rfl⟩
  have f5 : Fr h4 h5 [] := by rw [hH5]; exact (Fr.refl h4 []).new
  have n5 : h5.next = h.next + 5 := by rw [hH5]; show h4.next + 1 = _; omega
  have g5L : h5.get (h.next + 4) = some (.loop 0 none (rdE h.next) [13] L_tape_read_0a L_tape_read_0b) := by rw [hH5, ← n4]; exact get_new_same
  show VX fs ms _ _ (h4.new (.loop 0 none (rdE h.next) [13] L_tape_read_0a L_tape_read_0b)) _ _
  rw [← hH5]
  clear hH5
  have f35 : Fr h3 h5 [] := f4.trans f5
  have hq : RdQ h I L [] (X, 0) h5 := ⟨f03.trans f35, (f35.keep _ (by omega) (by simp)).trans g13, rd3.keep f35 (by simp) (.inr (by simp)), (f35.keep _ (by omega) (by simp)).trans g33, (f5.keep _ (by omega) (by simp)).trans g4F, g5L, by omega, lI⟩
  refine VX.mono (rdf_c (h0 := h) (S0 := (X, 0)) rfl hq) ?_ ?_
  rotate_left
  ·rintro v6 h6 ⟨e, hm, rfl, hf⟩
   set_option smartUnfolding false in conv => whnf
   exact ⟨rfl, .inr ⟨e, rfl, (met_e hm).1, (met_e hm).2, hf⟩⟩
  rintro _ h6 ⟨hs6, hz6⟩
  have hl5 := rdN_l 5 (X, 0)
  have hmany : manyS X = numS 32 (rdN 5 (X, 0)).2 := rfl
  have hfin : finS X = opsN (manyS X).1.toNat (manyS X).2 := rfl
  generalize (rdN 5 (X, 0)).1 = l5 at *
  generalize (rdN 5 (X, 0)).2 = S5 at *
  refine ⟨.normal, 0, hs6.gL, by decide, by simp, ?_⟩
  obtain ⟨h7, hH7⟩ : ∃ h7, h7 = h6.set (h.next + 4) (.loop 3 none (rdE h.next) [13] L_tape_read_0a L_tape_read_0b) := ⟨_, rfl⟩
  have f7 : Fr h6 h7 [h.next + 4] := by rw [hH7]; exact (Fr.refl h6 _).set (by simp)
  have n7 : h7.next = h6.next := by rw [hH7]; rfl
  show VC fs ms _ _ _ (ek 4 _) (h6.set (h.next + 4) (.loop 3 none (rdE h.next) [13] L_tape_read_0a L_tape_read_0b)) _
  rw [← hH7]
  clear hH7
  obtain ⟨q1, q2, q3, q4, q5, q6, q7, q8⟩ := hs6
  have f07 : Fr h h7 [] := ⟨by omega, fun c hc _ => (f7.keep c (by omega) (by simp; omega)).trans (q1.keep c hc (by simp))⟩
  have gT7 := (f7.keep h.next (by omega) (by simp)).trans q2
  have g37 := (f7.keep (h.next + 2) (by omega) (by simp)).trans q4
  have rd7 := q3.keep f7 (by simp) (lI.imp id (fun h => by simp; omega))
  refine vc_slots 3 [(2, .ptr h.next 0), (3, .ptr (h.next + 2) 0)] ⟨rfl, rfl, trivial⟩ ?_
  refine vc_seq true ?_
  set_option smartUnfolding false in conv => whnf
  refine ⟨_, ld1 g37 rfl, ?_⟩
  set_option smartUnfolding false in conv => whnf
  have hmok := numS_le (m := 32) q3.ok (by omega)
  have hmnn := numS_nn (most := 32) q3.ok
  refine num_c (by decide) rd7 fun h8 rd8 fr8 => ?_
  rw [← hmany] at *
  have n8 := fr8.next
  have f08 : Fr h h8 [] := ⟨by omega, fun c hc _ => (fr8.keep c (by omega) (by simp; omega)).trans (f07.keep c hc (by simp))⟩
  have gT8 := (fr8.keep h.next (by omega) (by simp)).trans gT7
  have g38 := (fr8.keep (h.next + 2) (by omega) (by simp)).trans g37
  set_option smartUnfolding false in conv => whnf
  refine vc_seqV (vc_opsX (z := true) rfl ?_)
  set_option smartUnfolding false in conv => whnf
  refine ⟨_, ld1 g38 rfl, ?_⟩
  set_option smartUnfolding false in conv => whnf
  refine must_c rd8 (fun hz8 => ?_) (fun hne => ?_)
  ·obtain ⟨n, hn⟩ := Int.eq_ofNat_of_zero_le hmnn
   have hn32 : n ≤ 32 := by omega
   have hnt : (manyS X).1.toNat = n := by rw [hn]; rfl
   rw [hnt] at hfin
   set_option smartUnfolding false in conv => whnf
   refine vc_seqV (vc_seq true ?_)
   set_option smartUnfolding false in conv => whnf
   refine vc_block ?_
   refine rdo_l (h0 := h) (I := I) (L := L) (l := l5) (S0 := (manyS X).2) (n := n) hn32 ?_ ?_ n 0 h8 _ rfl (Nat.zero_le _) hz8 ⟨f08, ⟨.nils, gT8, .inl ⟨rfl, rfl⟩⟩, rd8, g38, by omega, lI⟩ ⟨rfl, rfl, by rw [← hn]; rfl, rfl, trivial⟩
   ·intro e' h9 hs9 hz9 ha
    rw [← hfin] at hs9
    obtain ⟨r1, ⟨w, r2, r3⟩, r4, r5, r6, r7⟩ := hs9
    show VC fs ms _ _ _ _ _ _
    refine vc_slots 3 _ ha ?_
    refine vc_seqV (vc_seq true ?_)
    set_option smartUnfolding false in conv => whnf
    refine ⟨_, ld1 r5 rfl, ?_⟩
    set_option smartUnfolding false in conv => whnf
    refine end_c r4 ?_
    set_option smartUnfolding false in conv => whnf
    refine vc_seq true ?_
    set_option smartUnfolding false in conv => whnf
    refine vc_condV ?_
    set_option smartUnfolding false in conv => whnf
    refine br (fun hc => ?_) (fun hc => ?_) <;> (try rw [hc]) <;> (set_option smartUnfolding false in conv => whnf)
    ·have hne : readE X ≠ 0 := by simpa [readE] using hc
     refine vc_panic (z := true) rfl ?_
     set_option smartUnfolding false in conv => whnf
     exact ⟨_, _, rfl, rfl, rfl, .inr ⟨_, rfl, rfl, hne, r1, ⟨_, rfl, r2⟩, by omega⟩⟩
    ·have heq : readE X = 0 := by simpa [readE] using hc
     refine vpC_sound (z := true) ?_
     set_option smartUnfolding false in conv => whnf
     refine vpC_sound (z := true) ?_
     set_option smartUnfolding false in conv => whnf
     refine ⟨.agg (cellsW l5 w), ldN r2 (Nat.le_refl _), ?_⟩
     set_option smartUnfolding false in conv => whnf
     obtain ⟨c1, c2, c3⟩ := GR.one r3
     refine eff_o (sto_o r2 rfl (Nat.le_refl _) (flat_W c1 c3)) fun h10 e10 => ?_
     have f10 : Fr h9 h10 [h.next] := by rw [e10]; exact (Fr.refl h9 _).set (by simp)
     have gT10 : h10.get h.next = some (.cells (cellsW l5 w) true 0) := by rw [e10, get_set_same]; rfl
     clear e10
     set_option smartUnfolding false in conv => whnf
     refine ⟨rfl, .inl ⟨rfl, heq, w, ⟨Nat.le_trans r1.next f10.next, fun c hc _ => (f10.keep c (by have := r1.next; omega) (by simp; omega)).trans (r1.keep c hc (by simp))⟩, gT10, r3.keep f10 (by simp)⟩⟩
   ·intro e' h9 j hj hne hf h2
    rw [← hnt] at hj
    exact ⟨h2, .inr ⟨_, rfl, opsN_met hj hne, hne, hf⟩⟩
  ·set_option smartUnfolding false in conv => whnf
   exact ⟨rfl, .inr ⟨_, rfl, many_met hne (show (manyS X).1 = 0 from numS_bad0 (S := (rdN 5 (X, 0)).2) hne), hne, f08, ⟨_, rfl, gT8⟩, by omega⟩⟩
 ·rintro x e3 h3 ⟨hs2, ⟨rfl, hz, w, fr3, gT, gr⟩ | ⟨e, rfl, hz, hne, hf⟩⟩
  ·refine ⟨.inr (.inl rfl), rfl, ?_⟩
   set_option smartUnfolding false in conv => whnf
   refine vpO_sound (z := true) ?_
   set_option smartUnfolding false in conv => whnf
   refine ⟨rfl, vpC_sound (z := true) ?_⟩
   set_option smartUnfolding false in conv => whnf
   refine ⟨.inl rfl, [.agg (cellsW (rdN 5 (X, 0)).1 w)], res_cellN hs2 gT (Nat.le_refl _), ?_⟩
   have := hQ w h3 fr3 (by unfold resO; rw [if_pos hz]; exact gr.low (by omega))
   unfold cellsR at this
   rw [if_pos hz] at this
   exact this
  ·refine ⟨.inr (.inr ⟨_, rfl⟩), rfl, ?_⟩
   set_option smartUnfolding false in conv => whnf
   refine vpO_sound (z := true) ?_
   set_option smartUnfolding false in conv => whnf
   refine ⟨rfl, vpC_sound (z := true) ?_⟩
   set_option smartUnfolding false in conv => whnf
   obtain ⟨f1, ⟨cs, hl, g7⟩, n7⟩ := hf
   refine eff_o (sto_o g7 rfl (by show 0 + 0 + 7 ≤ cs.length; omega) rfl) fun h4 e4 => ?_
   have fr4 : Fr h h4 [] := by rw [e4]; exact f1.setn (Nat.le_refl _)
   have g4 : h4.get h.next = some (.cells [.int .i64 0, .int .i64 0, .int .i64 0, .int .i64 0, .int .i64 0, .nils, .int .i64 e] true 0) := by
    rw [e4, get_set_same]
    match cs, hl with
    | [_, _, _, _, _, _, _], _ => rfl
   clear e4
   set_option smartUnfolding false in conv => whnf
   refine ⟨.inl rfl, [.agg [.int .i64 0, .int .i64 0, .int .i64 0, .int .i64 0, .int .i64 0, .nils, .int .i64 e]], res_cellN hs2 g4 (Nat.le_refl _), ?_⟩
   have := hQ .nils h4 fr4 (by unfold resO; rw [if_neg (by rw [hz]; exact hne)]; exact .inl ⟨rfl, rfl⟩)
   unfold cellsR at this
   rw [if_neg (by rw [hz]; exact hne), hz] at this
   exact this
end Ir
end Go.Proofs.YtmnolnoeibhjgaaGreat
