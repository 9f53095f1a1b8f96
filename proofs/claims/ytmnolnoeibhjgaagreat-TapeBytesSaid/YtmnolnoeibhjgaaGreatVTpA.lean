/-
  Tape: which commands may be written.
-/
import Derived.Test.YtmnolnoeibhjgaaGreatVsG
set_option maxRecDepth 100000
set_option linter.unusedSimpArgs false
set_option linter.unusedVariables false
namespace Go.Proofs.YtmnolnoeibhjgaaGreat
open Go Ads
namespace Ir

structure TOp where
  k : Int
  n : Int
  s : List UInt8
  deriving DecidableEq
structure TCmd where
  k : Int
  p : Int
  t : Int
  n : Int
  m : Int
  kk : Nat
  ops : List TOp
def top (o : TOp) : AV := .agg [.int .i64 o.k, .int .i64 o.n, .str o.s]
def tops (l : List TOp) : List AV := l.map top
theorem len_tops (l : List TOp) : (tops l).length = l.length := List.length_map ..
theorem size_tops (l : List TOp) : allSize 3 (tops l) = true := allSize_map (enc := top) (fun _ => rfl) l
theorem cl_tops (l : List TOp) : clL (tops l) = true := clL_map (enc := top) (fun _ => rfl) l
theorem idx_top {l : List TOp} {j k : Nat} (hj : j < l.length) : pV (.iaddrS 3) [.fz k (tops l), .int .i64 (j : Nat)] = some (.fp (top l[j]).cells 0) := idx_map (enc := top) hj rfl
def tcm (x : TCmd) : AV := .agg [.int .i64 x.k, .int .i64 x.p, .int .i64 x.t, .int .i64 x.n, .int .i64 x.m, .fz x.kk (tops x.ops)]
def tcms (l : List TCmd) : List AV := l.map tcm
theorem len_tcms (l : List TCmd) : (tcms l).length = l.length := List.length_map ..
theorem size_tcms (l : List TCmd) : allSize 6 (tcms l) = true := allSize_map (enc := tcm) (fun _ => rfl) l
theorem cl_tcm (x : TCmd) : (tcm x).cl = true := by simp [tcm, AV.cl, clL, cl_tops]
theorem cl_tcms (l : List TCmd) : clL (tcms l) = true := clL_map (enc := tcm) cl_tcm l
theorem idx_tcm {l : List TCmd} {j k : Nat} (hj : j < l.length) : pV (.iaddrS 6) [.fz k (tcms l), .int .i64 (j : Nat)] = some (.fp (tcm l[j]).cells 0) := idx_map (enc := tcm) hj rfl

def badN (n : Int) : Bool := decide (n < 0) || decide (n > 9007199254740991)
theorem badN_c (n : Int) : PC fs ms f_tape_numbers_1 [.int .i64 n] (.bool (badN n)) := by
  refine pc_of rfl rfl ?_
  refine vd_start (af := C_tape_numbers_1) false rfl (Nat.le_of_ble_eq_true rfl) ?_
  generalize hQ : (fun (v : AV) (_ : Heap) => v = .bool (badN n)) = Q
  set_option smartUnfolding false in conv => whnf
  refine br (fun hc => ?_) (fun hc => ?_) <;> (try rw [hc]) <;> (set_option smartUnfolding false in conv => whnf)
  · subst hQ; simp only [badN, hc, Bool.true_or]
  · subst hQ; simp only [badN, hc, Bool.false_or]
theorem refnum_c (n : Int) : PC fs ms f_escapementref28_number [.int .i64 n] (.bool (!badN n)) := by
  refine pc_of rfl rfl ?_
  refine vd_start (af := C_escapementref28_number) false rfl (Nat.le_of_ble_eq_true rfl) ?_
  generalize hQ : (fun (v : AV) (_ : Heap) => v = .bool (!badN n)) = Q
  set_option smartUnfolding false in conv => whnf
  refine br (fun hc => ?_) (fun hc => ?_) <;> (try rw [hc]) <;> (set_option smartUnfolding false in conv => whnf)
  · subst hQ
    have h1 : ¬ n < 0 := by simpa using hc
    simp only [badN, h1, decide_false, Bool.false_or]
    congr 1
    by_cases h2 : n ≤ 9007199254740991
    · have : ¬ n > 9007199254740991 := by omega
      simp [h2, this]
    · have : n > 9007199254740991 := by omega
      simp [h2, this]
  · subst hQ
    have h1 : n < 0 := by have := of_decide_eq_false hc; omega
    simp [badN, h1]

def fnBad : AV := .func (.func f_tape_numbers_1) [] []
def idxBad (l : List Int) : Int := if l.any badN then (l.findIdx badN : Nat) else -1
theorem idxBad_c (k : Nat) (l : List Int) (hl : l.length < 2 ^ 62) : PC fs ms f_slices_IndexFunc_int_int [.fz k (ints l), fnBad] (.int .i64 (idxBad l)) := by
  refine pc_of (by simp [clL, AV.cl, cl_ints, fnBad]) rfl ?_
  refine vd_start (af := C_slices_IndexFunc_int_int) false rfl (Nat.le_of_ble_eq_true rfl) ?_
  generalize hQ : (fun (v : AV) (_ : Heap) => v = .int .i64 (idxBad l)) = Q
  unfold fnBad
  set_option smartUnfolding false in conv => whnf
  refine vc_to0 4 [(8, .int .i64 (0 : Nat)), (7, .int .i64 (l.length : Nat)), (0, .fz k (ints l)), (1, .func (.func f_tape_numbers_1) [] [])] ⟨⟨_, rfl, .cl rfl⟩, ⟨_, by rw [← len_ints]; rfl, .cl rfl⟩, ⟨_, rfl, .cl (by simp [AV.cl, cl_ints])⟩, ⟨_, rfl, .cl rfl⟩, trivial⟩ ?_
  refine for_row 4 l.length (fun j => (l.take j).any badN = false) (fun j => [(8, .int .i64 (j : Nat)), (7, .int .i64 (l.length : Nat)), (0, .fz k (ints l)), (1, .func (.func f_tape_numbers_1) [] [])]) ?_ ?_ rfl
  · intro j hj hi
    set_option smartUnfolding false in conv => whnf
    refine brt (by simpa using hj) (fun hc => ?_)
    (try rw [hc])
    set_option smartUnfolding false in conv => whnf
    refine ⟨_, idx_int hj, ?_⟩
    set_option smartUnfolding false in conv => whnf
    refine vd_pure (badN_c l[j]) ?_
    set_option smartUnfolding false in conv => whnf
    refine br (fun hc => ?_) (fun hc => ?_) <;> (try rw [hc]) <;> (set_option smartUnfolding false in conv => whnf)
    · subst hQ
      have hany : l.any badN = true := List.any_eq_true.2 ⟨_, List.getElem_mem hj, hc⟩
      rw [idxBad, if_pos hany]
      congr 2
      refine Eq.symm ((List.findIdx_eq hj).2 ⟨hc, fun i hi' => ?_⟩)
      cases hb : badN l[i] with
      | false => rfl
      | true =>
        have : (l.take j).any badN = true := List.any_eq_true.2 ⟨l[i], List.mem_take_iff_getElem.2 ⟨i, by omega, rfl⟩, hb⟩
        rw [hi] at this; exact absurd this (by decide)
    · refine ⟨?_, renAt_cl (inc_slot (by omega)) rfl (by repeat' (first | exact trivial | refine renAt_sl rfl (by omega) ?_ | refine renAt_ptr rfl (by omega) ?_ | refine renAt_yield rfl (by omega) ?_ | refine renAt_cl rfl (by first | rfl | simp [clL, AV.cl, cl_ints]) ?_ | refine renAt_cl (inc_slot (by omega)) rfl ?_))⟩
      rw [List.take_succ_eq_append_getElem hj, List.any_append, hi]
      simp [hc]
  · intro hi
    rw [List.take_length] at hi
    set_option smartUnfolding false in conv => whnf
    refine brf (by simp) (fun hc => ?_)
    (try rw [hc])
    set_option smartUnfolding false in conv => whnf
    subst hQ
    rw [idxBad, hi, if_neg (by decide)]
theorem conBad_c (k : Nat) (l : List Int) (hl : l.length < 2 ^ 62) : PC fs ms f_slices_ContainsFunc_int_int [.fz k (ints l), fnBad] (.bool (l.any badN)) := by
  refine pc_of (by simp [clL, AV.cl, cl_ints, fnBad]) rfl ?_
  refine vd_start (af := C_slices_ContainsFunc_int_int) false rfl (Nat.le_of_ble_eq_true rfl) ?_
  generalize hQ : (fun (v : AV) (_ : Heap) => v = .bool (l.any badN)) = Q
  have hc := idxBad_c k l hl
  unfold fnBad at hc ⊢
  set_option smartUnfolding false in conv => whnf
  refine vd_pure hc ?_
  set_option smartUnfolding false in conv => whnf
  subst hQ
  congr 1
  rw [idxBad]
  cases l.any badN with
  | true => simp
  | false => simp
theorem nums_c (k : Nat) (l : List Int) (hl : l.length < 2 ^ 62) : PC fs ms f_tape_numbers [.fz k (ints l)] (.bool (!l.any badN)) := by
  refine pc_of (by simp [clL, AV.cl, cl_ints]) rfl ?_
  refine vd_start (af := C_tape_numbers) false rfl (Nat.le_of_ble_eq_true rfl) ?_
  generalize hQ : (fun (v : AV) (_ : Heap) => v = .bool (!l.any badN)) = Q
  have hc := conBad_c k l hl
  unfold fnBad at hc
  set_option smartUnfolding false in conv => whnf
  refine vd_pure hc ?_
  set_option smartUnfolding false in conv => whnf
  subst hQ
  rfl

def opE (o : TOp) : Int := if badN o.k || badN o.n then 2 else if 16 < o.s.length then 5 else 0
def opsE : List TOp → Int
  | [] => 0
  | o :: l => if opE o = 0 then opsE l else opE o
def chk (x : TCmd) : Int := if badN x.k || badN x.p || badN x.t || badN x.n || badN x.m then 2 else if 32 < x.ops.length then 5 else opsE x.ops
theorem opsE_at {l : List TOp} {j : Nat} (hj : j < l.length) : opsE (l.drop j) = if opE l[j] = 0 then opsE (l.drop (j + 1)) else opE l[j] := by
  rw [List.drop_eq_getElem_cons hj]
  rfl
theorem opsE_zero : ∀ {l : List TOp}, opsE l = 0 → ∀ o ∈ l, opE o = 0
  | [], _, o, ho => by simp at ho
  | a :: l, h, o, ho => by
    simp only [opsE] at h
    by_cases ha : opE a = 0
    · rw [if_pos ha] at h
      rcases List.mem_cons.1 ho with rfl | ho
      · exact ha
      · exact opsE_zero h o ho
    · rw [if_neg ha] at h; exact absurd h ha

theorem chk_c (x : TCmd) (hl : x.ops.length < 2 ^ 62) : PC fs ms f_tape_Check [tcm x] (.int .i64 (chk x)) := by
  refine pc_of (by simp [clL, cl_tcm]) rfl ?_
  refine vd_start (af := C_tape_Check) false rfl (Nat.le_of_ble_eq_true rfl) ?_
  generalize hQ : (fun (v : AV) (_ : Heap) => v = .int .i64 (chk x)) = Q
  set_option smartUnfolding false in conv => whnf
  refine vd_view (nums_c 2 [x.k, x.p, x.t, x.n, x.m] (by simp)) rfl (.cons (.row (s := 1) trivial rfl rfl rfl rfl (Nat.le_refl _) (by omega) (fun _ => rfl) (fun _ => rfl) rfl) .nil) ?_
  set_option smartUnfolding false in conv => whnf
  refine br (fun hc => ?_) (fun hc => ?_) <;> (try rw [hc]) <;> (set_option smartUnfolding false in conv => whnf)
  · subst hQ
    have : (badN x.k || badN x.p || badN x.t || badN x.n || badN x.m) = true := by simpa [Bool.or_assoc] using hc
    rw [chk, if_pos this]
  · have h1 : (badN x.k || badN x.p || badN x.t || badN x.n || badN x.m) = false := by simpa [Bool.or_assoc] using hc
    refine br (fun hc => ?_) (fun hc => ?_) <;> (try rw [hc]) <;> (set_option smartUnfolding false in conv => whnf)
    · subst hQ
      have h2 : 32 < x.ops.length := by have := of_decide_eq_true hc; rw [len_tops] at this; omega
      rw [chk, if_neg (by rw [h1]; decide), if_pos h2]
    · have h2 : ¬ 32 < x.ops.length := by have := of_decide_eq_false hc; rw [len_tops] at this; omega
      have hx : chk x = opsE x.ops := by rw [chk, if_neg (by rw [h1]; decide), if_neg h2]
      rw [hx] at hQ
      refine vc_to0 5 [(27, .int .i64 (0 : Nat)), (26, .int .i64 (x.ops.length : Nat)), (25, .fz x.kk (tops x.ops))] ⟨⟨_, rfl, .cl rfl⟩, ⟨_, by rw [← len_tops]; rfl, .cl rfl⟩, ⟨_, rfl, .cl (by simp [AV.cl, cl_tops])⟩, trivial⟩ ?_
      refine for_row 5 x.ops.length (fun j => opsE x.ops = opsE (x.ops.drop j)) (fun j => [(27, .int .i64 (j : Nat)), (26, .int .i64 (x.ops.length : Nat)), (25, .fz x.kk (tops x.ops))]) ?_ ?_ rfl
      · intro j hj hi
        rw [opsE_at hj] at hi
        have hix := idx_top (k := x.kk) hj
        generalize x.ops[j] = o at *
        set_option smartUnfolding false in conv => whnf
        refine brt (by simpa using hj) (fun hc => ?_)
        (try rw [hc])
        set_option smartUnfolding false in conv => whnf
        refine ⟨_, hix, ?_⟩
        set_option smartUnfolding false in conv => whnf
        refine vd_view (nums_c 2 [o.k, o.n] (by simp)) rfl (.cons (.row (s := 1) trivial rfl rfl rfl rfl (Nat.le_refl _) (by omega) (fun _ => rfl) (fun _ => rfl) rfl) .nil) ?_
        set_option smartUnfolding false in conv => whnf
        refine br (fun hc => ?_) (fun hc => ?_) <;> (try rw [hc]) <;> (set_option smartUnfolding false in conv => whnf)
        · subst hQ
          have h3 : (badN o.k || badN o.n) = true := by simpa using hc
          have h4 : opE o = 2 := by rw [opE, if_pos h3]
          rw [hi, h4]
          rfl
        · have h3 : (badN o.k || badN o.n) = false := by simpa using hc
          refine br (fun hc => ?_) (fun hc => ?_) <;> (try rw [hc]) <;> (set_option smartUnfolding false in conv => whnf)
          · subst hQ
            have h4 : 16 < o.s.length := by have := of_decide_eq_true hc; omega
            have h5 : opE o = 5 := by rw [opE, if_neg (by rw [h3]; decide), if_pos h4]
            rw [hi, h5]
            rfl
          · have h4 : ¬ 16 < o.s.length := by have := of_decide_eq_false hc; omega
            have h5 : opE o = 0 := by rw [opE, if_neg (by rw [h3]; decide), if_neg h4]
            rw [h5, if_pos rfl] at hi
            exact ⟨hi, renAt_cl (inc_slot (by omega)) rfl (by repeat' (first | exact trivial | refine renAt_sl rfl (by omega) ?_ | refine renAt_ptr rfl (by omega) ?_ | refine renAt_yield rfl (by omega) ?_ | refine renAt_cl rfl (by first | rfl | simp [clL, AV.cl, cl_ints, cl_tops]) ?_ | refine renAt_cl (inc_slot (by omega)) rfl ?_))⟩
      · intro hi
        rw [List.drop_length] at hi
        set_option smartUnfolding false in conv => whnf
        refine brf (by simp) (fun hc => ?_)
        (try rw [hc])
        set_option smartUnfolding false in conv => whnf
        subst hQ
        rw [hi]
        rfl
end Ir
end Go.Proofs.YtmnolnoeibhjgaaGreat
