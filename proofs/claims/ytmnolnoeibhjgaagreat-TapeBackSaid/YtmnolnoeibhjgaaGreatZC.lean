/-
  Tape: which commands may be written. Tape: the document's check. Tape: numbers as bytes: the program's Put. Tape: texts as bytes; the document's Put. Tape: a command's bytes, as the program makes them. Tape: a command's bytes, as the document makes them; tapes of commands.
-/
import Derived.Test.YtmnolnoeibhjgaaGreatZB
set_option maxRecDepth 100000
set_option linter.unusedSimpArgs false
set_option linter.unusedVariables false
namespace Go.Proofs.YtmnolnoeibhjgaaGreat
open Go Ads
namespace Ir

structure TOp where
 k : Int
 n : Int
 s : List UInt8
 deriving DecidableEq
structure TCmd where
 k : Int
 p : Int
 t : Int
 n : Int
 m : Int
 kk : Nat
 ops : List TOp
def top (o : TOp) : AV := .agg [.int .i64 o.k, .int .i64 o.n, .str o.s]
def tops (l : List TOp) : List AV := l.map top
theorem len_tops (l : List TOp) : (tops l).length = l.length := List.length_map ..
theorem size_tops (l : List TOp) : allSize 3 (tops l) = true := allSize_map (enc := top) (fun _ => rfl) l
theorem cl_tops (l : List TOp) : clL (tops l) = true := clL_map (enc := top) (fun _ => rfl) l
theorem idx_top {l : List TOp} {j k : Nat} (hj : j < l.length) : pV (.iaddrS 3) [.fz k (tops l), .int .i64 (j : Nat)] = some (.fp (top l[j]).cells 0) := idx_map (enc := top) hj rfl
def tcm (x : TCmd) : AV := .agg [.int .i64 x.k, .int .i64 x.p, .int .i64 x.t, .int .i64 x.n, .int .i64 x.m, .fz x.kk (tops x.ops)]
def tcms (l : List TCmd) : List AV := l.map tcm
theorem len_tcms (l : List TCmd) : (tcms l).length = l.length := List.length_map ..
theorem size_tcms (l : List TCmd) : allSize 6 (tcms l) = true := allSize_map (enc := tcm) (fun _ => rfl) l
theorem cl_tcm (x : TCmd) : (tcm x).cl = true := by simp [tcm, AV.cl, clL, cl_tops]
theorem cl_tcms (l : List TCmd) : clL (tcms l) = true := clL_map (enc := tcm) cl_tcm l
theorem idx_tcm {l : List TCmd} {j k : Nat} (hj : j < l.length) : pV (.iaddrS 6) [.fz k (tcms l), .int .i64 (j : Nat)] = some (.fp (tcm l[j]).cells 0) := idx_map (enc := tcm) hj rfl

def badN (n : Int) : Bool := decide (n < 0) || decide (n > 9007199254740991)
theorem badN_c (n : Int) : PC fs ms f_tape_numbers_1 [.int .i64 n] (.bool (badN n)) := by
 refine pc_of rfl rfl ?_
 refine vd_start (af := C_tape_numbers_1) false rfl (yB rfl) ?_
 generalize hQ : (fun (v : AV) (_ : Heap) => v = .bool (badN n)) = Q
 set_option smartUnfolding false in conv => whnf
 refine br (fun hc => ?_) (fun hc => ?_) <;> (try rw [hc]) <;> (set_option smartUnfolding false in conv => whnf)
 ·subst hQ; simp only [badN, hc, Bool.true_or]
 ·subst hQ; simp only [badN, hc, Bool.false_or]
def fnBad : AV := .func (.func f_tape_numbers_1) [] []
def idxBad (l : List Int) : Int := if l.any badN then (l.findIdx badN : Nat) else -1
theorem idxBad_c (k : Nat) (l : List Int) (hl : l.length < 2 ^ 62) : PC fs ms f_slices_IndexFunc_int_int [.fz k (ints l), fnBad] (.int .i64 (idxBad l)) := by
 refine pc_of (by simp [clL, AV.cl, cl_ints, fnBad]) rfl ?_
 refine vd_start (af := C_slices_IndexFunc_int_int) false rfl (yB rfl) ?_
 generalize hQ : (fun (v : AV) (_ : Heap) => v = .int .i64 (idxBad l)) = Q
 unfold fnBad
 set_option smartUnfolding false in conv => whnf
 refine vc_to0 4 [(8, .int .i64 (0 : Nat)), (7, .int .i64 (l.length : Nat)), (0, .fz k (ints l)), (1, .func (.func f_tape_numbers_1) [] [])] ⟨⟨_, rfl, .cl rfl⟩, ⟨_, by rw [← len_ints]; rfl, .cl rfl⟩, ⟨_, rfl, .cl (by simp [AV.cl, cl_ints])⟩, ⟨_, rfl, .cl rfl⟩, trivial⟩ ?_
 refine for_row 4 l.length (fun j => (l.take j).any badN = false) (fun j => [(8, .int .i64 (j : Nat)), (7, .int .i64 (l.length : Nat)), (0, .fz k (ints l)), (1, .func (.func f_tape_numbers_1) [] [])]) ?_ ?_ rfl
 ·intro j hj hi
  set_option smartUnfolding false in conv => whnf
  refine brt (by simpa using hj) (fun hc => ?_)
  (try rw [hc])
  set_option smartUnfolding false in conv => whnf
  refine ⟨_, idx_int hj, ?_⟩
  set_option smartUnfolding false in conv => whnf
  refine vd_pure (badN_c l[j]) ?_
  set_option smartUnfolding false in conv => whnf
  refine br (fun hc => ?_) (fun hc => ?_) <;> (try rw [hc]) <;> (set_option smartUnfolding false in conv => whnf)
  ·subst hQ
   have hany : l.any badN = true := List.any_eq_true.2 ⟨_, List.getElem_mem hj, hc⟩
   rw [idxBad, if_pos hany]
   congr 2
   refine Eq.symm ((List.findIdx_eq hj).2 ⟨hc, fun i hi' => ?_⟩)
   cases hb : badN l[i] with
   | false => rfl
   | true =>
    have : (l.take j).any badN = true := List.any_eq_true.2 ⟨l[i], List.mem_take_iff_getElem.2 ⟨i, by omega, rfl⟩, hb⟩
    rw [hi] at this; exact absurd this (by decide)
  ·refine ⟨?_, renAt_cl (inc_slot (by omega)) rfl (by repeat' (first | exact trivial | refine renAt_sl rfl (by omega) ?_ | refine renAt_ptr rfl (by omega) ?_ | refine renAt_yield rfl (by omega) ?_ | refine renAt_cl rfl (by first | rfl | simp [clL, AV.cl, cl_ints]) ?_ | refine renAt_cl (inc_slot (by omega)) rfl ?_))⟩
   rw [List.take_succ_eq_append_getElem hj, List.any_append, hi]
   simp [hc]
 ·intro hi
  rw [List.take_length] at hi
  set_option smartUnfolding false in conv => whnf
  refine brf (by simp) (fun hc => ?_)
  (try rw [hc])
  set_option smartUnfolding false in conv => whnf
  subst hQ
  rw [idxBad, hi, if_neg (by decide)]
theorem conBad_c (k : Nat) (l : List Int) (hl : l.length < 2 ^ 62) : PC fs ms f_slices_ContainsFunc_int_int [.fz k (ints l), fnBad] (.bool (l.any badN)) := by
 refine pc_of (by simp [clL, AV.cl, cl_ints, fnBad]) rfl ?_
 refine vd_start (af := C_slices_ContainsFunc_int_int) false rfl (yB rfl) ?_
 generalize hQ : (fun (v : AV) (_ : Heap) => v = .bool (l.any badN)) = Q
 have hc := idxBad_c k l hl
 unfold fnBad at hc ⊢
 set_option smartUnfolding false in conv => whnf
 refine vd_pure hc ?_
 set_option smartUnfolding false in conv => whnf
 subst hQ
 congr 1
 rw [idxBad]
 cases l.any badN with
 | true => simp
 | false => simp
theorem nums_c (k : Nat) (l : List Int) (hl : l.length < 2 ^ 62) : PC fs ms f_tape_numbers [.fz k (ints l)] (.bool (!l.any badN)) := by
 refine pc_of (by simp [clL, AV.cl, cl_ints]) rfl ?_
 refine vd_start (af := C_tape_numbers) false rfl (yB rfl) ?_
 generalize hQ : (fun (v : AV) (_ : Heap) => v = .bool (!l.any badN)) = Q
 have hc := conBad_c k l hl
 unfold fnBad at hc
 set_option smartUnfolding false in conv => whnf
 refine vd_pure hc ?_
 set_option smartUnfolding false in conv => whnf
 subst hQ
 rfl

def opE (o : TOp) : Int := if badN o.k || badN o.n then 2 else if 16 < o.s.length then 5 else 0
def opsE : List TOp → Int
 | [] => 0
 | o :: l => if opE o = 0 then opsE l else opE o
def chk (x : TCmd) : Int := if badN x.k || badN x.p || badN x.t || badN x.n || badN x.m then 2 else if 32 < x.ops.length then 5 else opsE x.ops
theorem opsE_at {l : List TOp} {j : Nat} (hj : j < l.length) : opsE (l.drop j) = if opE l[j] = 0 then opsE (l.drop (j + 1)) else opE l[j] := by
 rw [List.drop_eq_getElem_cons hj]
 rfl
theorem opsE_zero : ∀ {l : List TOp}, opsE l = 0 → ∀ o ∈ l, opE o = 0
 | [], _, o, ho => by simp at ho
 | a :: l, h, o, ho => by
  simp only [opsE] at h
  by_cases ha : opE a = 0
  ·rw [if_pos ha] at h
   rcases List.mem_cons.1 ho with rfl | ho
   ·exact ha
   ·exact opsE_zero h o ho
  ·rw [if_neg ha] at h; exact absurd h ha

theorem chk_c (x : TCmd) (hl : x.ops.length < 2 ^ 62) : PC fs ms f_tape_Check [tcm x] (.int .i64 (chk x)) := by
 refine pc_of (by simp [clL, cl_tcm]) rfl ?_
 refine vd_start (af := C_tape_Check) false rfl (yB rfl) ?_
 generalize hQ : (fun (v : AV) (_ : Heap) => v = .int .i64 (chk x)) = Q
 set_option smartUnfolding false in conv => whnf
 refine vd_view (nums_c 2 [x.k, x.p, x.t, x.n, x.m] (by simp)) rfl (.cons (.row (s := 1) trivial rfl rfl rfl rfl (Nat.le_refl _) (by omega) (fun _ => rfl) (fun _ => rfl) rfl) .nil) ?_
 set_option smartUnfolding false in conv => whnf
 refine br (fun hc => ?_) (fun hc => ?_) <;> (try rw [hc]) <;> (set_option smartUnfolding false in conv => whnf)
 ·subst hQ
  have : (badN x.k || badN x.p || badN x.t || badN x.n || badN x.m) = true := by simpa [Bool.or_assoc] using hc
  rw [chk, if_pos this]
 ·have h1 : (badN x.k || badN x.p || badN x.t || badN x.n || badN x.m) = false := by simpa [Bool.or_assoc] using hc
  refine br (fun hc => ?_) (fun hc => ?_) <;> (try rw [hc]) <;> (set_option smartUnfolding false in conv => whnf)
  ·subst hQ
   have h2 : 32 < x.ops.length := by have := of_decide_eq_true hc; rw [len_tops] at this; omega
   rw [chk, if_neg (by rw [h1]; decide), if_pos h2]
  ·have h2 : ¬ 32 < x.ops.length := by have := of_decide_eq_false hc; rw [len_tops] at this; omega
   have hx : chk x = opsE x.ops := by rw [chk, if_neg (by rw [h1]; decide), if_neg h2]
   rw [hx] at hQ
   refine vc_to0 5 [(27, .int .i64 (0 : Nat)), (26, .int .i64 (x.ops.length : Nat)), (25, .fz x.kk (tops x.ops))] ⟨⟨_, rfl, .cl rfl⟩, ⟨_, by rw [← len_tops]; rfl, .cl rfl⟩, ⟨_, rfl, .cl (by simp [AV.cl, cl_tops])⟩, trivial⟩ ?_
   refine for_row 5 x.ops.length (fun j => opsE x.ops = opsE (x.ops.drop j)) (fun j => [(27, .int .i64 (j : Nat)), (26, .int .i64 (x.ops.length : Nat)), (25, .fz x.kk (tops x.ops))]) ?_ ?_ rfl
   ·intro j hj hi
    rw [opsE_at hj] at hi
    have hix := idx_top (k := x.kk) hj
    generalize x.ops[j] = o at *
    set_option smartUnfolding false in conv => whnf
    refine brt (by simpa using hj) (fun hc => ?_)
    (try rw [hc])
    set_option smartUnfolding false in conv => whnf
    refine ⟨_, hix, ?_⟩
    set_option smartUnfolding false in conv => whnf
    refine vd_view (nums_c 2 [o.k, o.n] (by simp)) rfl (.cons (.row (s := 1) trivial rfl rfl rfl rfl (Nat.le_refl _) (by omega) (fun _ => rfl) (fun _ => rfl) rfl) .nil) ?_
    set_option smartUnfolding false in conv => whnf
    refine br (fun hc => ?_) (fun hc => ?_) <;> (try rw [hc]) <;> (set_option smartUnfolding false in conv => whnf)
    ·subst hQ
     have h3 : (badN o.k || badN o.n) = true := by simpa using hc
     have h4 : opE o = 2 := by rw [opE, if_pos h3]
     rw [hi, h4]
     rfl
    ·have h3 : (badN o.k || badN o.n) = false := by simpa using hc
     refine br (fun hc => ?_) (fun hc => ?_) <;> (try rw [hc]) <;> (set_option smartUnfolding false in conv => whnf)
     ·subst hQ
      have h4 : 16 < o.s.length := by have := of_decide_eq_true hc; omega
      have h5 : opE o = 5 := by rw [opE, if_neg (by rw [h3]; decide), if_pos h4]
      rw [hi, h5]
      rfl
     ·have h4 : ¬ 16 < o.s.length := by have := of_decide_eq_false hc; omega
      have h5 : opE o = 0 := by rw [opE, if_neg (by rw [h3]; decide), if_neg h4]
      rw [h5, if_pos rfl] at hi
      exact ⟨hi, renAt_cl (inc_slot (by omega)) rfl (by repeat' (first | exact trivial | refine renAt_sl rfl (by omega) ?_ | refine renAt_ptr rfl (by omega) ?_ | refine renAt_yield rfl (by omega) ?_ | refine renAt_cl rfl (by first | rfl | simp [clL, AV.cl, cl_ints, cl_tops]) ?_ | refine renAt_cl (inc_slot (by omega)) rfl ?_))⟩
   ·intro hi
    rw [List.drop_length] at hi
    set_option smartUnfolding false in conv => whnf
    refine brf (by simp) (fun hc => ?_)
    (try rw [hc])
    set_option smartUnfolding false in conv => whnf
    subst hQ
    rw [hi]
    rfl
end Ir
end Go.Proofs.YtmnolnoeibhjgaaGreat
namespace Go.Proofs.YtmnolnoeibhjgaaGreat
open Go Ads
namespace Ads
theorem app_nB {h : Heap} {s bytes b m n : Nat} {vs cs : List AV} {x : AV} (hg : h.get b = some (.cells vs true s)) (hv : vs.length = m * s) (hsrc : srcV s h x = some (n + 1, cs)) (hf : flatL cs = true) (hb : (m + (n + 1)) * bytes ≤ 140737488355328) (hm : m + (n + 1) ≤ 140737488355328) :
  eV (.append s bytes) [.sl b 0 m m true, x] h = some (.sl h.next 0 (m + (n + 1)) (m + (n + 1)) true, (h.del b).new (.cells (vs ++ cs) true s)) := by
 have b1 : Nat.ble (m + (n + 1)) m = false := by cases hb : Nat.ble (m + (n + 1)) m with | false => rfl | true => (have := Nat.le_of_ble_eq_true hb; omega)
 have b2 : Nat.ble ((m + (n + 1)) * bytes) 140737488355328 = true := Nat.ble_eq_true_of_le hb
 have b3 : Nat.ble (m + (n + 1)) 9223372036854775807 = true := Nat.ble_eq_true_of_le (by omega)
 have b4 : Nat.ble (0 + m * s) vs.length = true := Nat.ble_eq_true_of_le (by omega)
 have b5 : Nat.beq vs.length (0 + m * s) = true := by rw [hv, Nat.zero_add]; exact Nat.beq_refl _
 have hld : h.loadN b 0 (m * s) = some vs := by
  simp only [Heap.loadN, Heap.row, hg, b4, cond_true, List.drop_zero]
  rw [← hv, List.take_length]
 simp only [eV, l2, hsrc]
 show cond (flatL cs) _ _ = _
 rw [hf, cond_true]
 show cond (Nat.beq (n + 1) 0 && Nat.ble m m) _ _ = _
 rw [show Nat.beq (n + 1) 0 = false from rfl, Bool.false_and, cond_false, b1, cond_false, b2, b3, Bool.and_self, cond_true, hg, hld]
 show cond true (cond (true && Nat.beq vs.length (0 + m * s) && Nat.beq m m && Nat.beq s s) _ _) _ = _
 rw [b5, Nat.beq_refl, Nat.beq_refl]
 rfl
theorem GR.appN {s bytes lo : Nat} {h : Heap} {v x : AV} {M X : List AV} (hr : GR s lo h v M) (hlo : lo ≤ h.next) (hsrc : srcV s h x = some (X.length, flatCells X)) (hf : flatL (flatCells X) = true) (hs : allSize s M = true) (hl : (M.length + X.length) * bytes ≤ 140737488355328) (hm : M.length + X.length ≤ 140737488355328) :
  ∃ v' g', eV (.append s bytes) [v, x] h = some (v', g') ∧ GR s lo g' v' (M ++ X) ∧ h.next ≤ g'.next ∧ ∀ c, c < lo → g'.get c = h.get c := by
 rcases hr with ⟨rfl, rfl⟩ | ⟨hne0, b, h1, h2, rfl, h4⟩
 ·have := app_nilsG (bytes := bytes) hsrc hf (by simpa using hl) (by simpa using hm)
  by_cases hz : X.length = 0
  ·rw [if_pos hz] at this
   have hX : X = [] := List.eq_nil_of_length_eq_zero hz
   subst hX
   exact ⟨_, _, this, .inl ⟨rfl, rfl⟩, Nat.le_refl _, fun c _ => rfl⟩
  ·rw [if_neg hz] at this
   exact ⟨_, _, this, .inr ⟨fun h => hz (by rw [List.nil_append] at h; rw [h]; rfl), h.next, hlo, Nat.lt_succ_self _, rfl, get_new_same⟩, Nat.le_succ _, fun c hc => get_new_ne (by omega)⟩
 ·cases X with
  | nil =>
   refine ⟨.sl b 0 M.length M.length true, h, ?_, .inr ⟨by simpa using hne0, b, h1, h2, by simp, by simpa using h4⟩, Nat.le_refl _, fun c _ => rfl⟩
   have hsrc' : srcV s h x = some (0, flatCells []) := hsrc
   simp only [eV, l2, hsrc']
   show cond (flatL (flatCells [])) (cond (Nat.beq 0 0 && Nat.ble M.length M.length) _ _) _ = _
   rw [hf, Nat.ble_eq_true_of_le (Nat.le_refl _)]
   rfl
  | cons y X =>
   refine ⟨_, _, app_nB (n := X.length) h4 (flat_size hs) hsrc hf hl hm, .inr ⟨by simp, h.next, hlo, Nat.lt_succ_self _, by rw [List.length_append]; rfl, ?_⟩, Nat.le_succ _, fun c hc => ?_⟩
   ·have := get_new_same (h := h.del b) (x := .cells (flatCells M ++ flatCells (y :: X)) true s)
    rw [show (h.del b).next = h.next from rfl] at this
    rw [this, flat_app]
   ·have hne : c ≠ b := by omega
    exact (get_new_ne (h := h.del b) (show c < h.next by omega)).trans (get_del_ne2 hne)
theorem Frz.mono {P P' : Nat → Prop} (hp : ∀ b, P b → P' b) {g : Heap} {v v' : AV} (h : Frz P g v v') : Frz P' g v v' := by
 induction h with
 | clean h => exact .clean h
 | agg h _ ih => exact .agg h ih
 | tup h _ ih => exact .tup h ih
 | iface _ ih => exact .iface ih
 | nils => exact .nils
 | func h _ h' _ ih ih' => exact .func h ih h' ih'
 | ptr hb hg ho hl _ ih => exact .ptr (hp _ hb) hg ho hl ih
 | sl hb hg hs hn hl hc hk h1 h2 _ ih => exact .sl (hp _ hb) hg hs hn hl hc hk h1 h2 ih
theorem Fr.app {h0 h g : Heap} (fr : Fr h0 h []) (hn : h.next ≤ g.next) (hk : ∀ c, c < h0.next → g.get c = h.get c) : Fr h0 g [] := ⟨Nat.le_trans fr.next hn, fun c hc hb => (hk c hc).trans (fr.keep c hc hb)⟩
theorem shr_val (x : Int) {n : Nat} (h : n ≤ 64) : pV (.bin .shr) [.int .i64 x, .int .i64 (n : Nat)] = some (.int .i64 (x.fdiv (2 ^ n))) := by
 have : ¬ ((n : Int) < 0) := by omega
 simp [pV, pIF, l2, binF, dInt, isShift, binShift, this, Nat.min_eq_left (show n ≤ IntKind.i64.bits from h)]
end Ads
namespace Ir

def bys (l : List Int) : List AV := l.map (AV.int .u8)
theorem len_bys (l : List Int) : (bys l).length = l.length := List.length_map ..
theorem size_bys (l : List Int) : allSize 1 (bys l) = true := allSize_map (enc := AV.int .u8) (fun _ => rfl) l
theorem cl_bys (l : List Int) : clL (bys l) = true := clL_map (enc := AV.int .u8) (fun _ => rfl) l
theorem app_bys (l m : List Int) : bys (l ++ m) = bys l ++ bys m := List.map_append ..
theorem flat_bys (l : List Int) : flatCells (bys l) = bys l := by
 induction l with
 | nil => rfl
 | cons x l ih =>
  show AV.cells (.int .u8 x) ++ flatCells (bys l) = _
  rw [ih]
  rfl
theorem flatL_bys : ∀ l : List Int, flatL (bys l) = true
 | [] => rfl
 | x :: l => by simp only [bys, List.map_cons, flatL, AV.flat, cond_true]; exact flatL_bys l
abbrev w8 (n : Int) : Int := IntKind.u8.wrap n
def hi8 (n : Int) (i : Nat) : List Int := (List.range' i (8 - i)).map fun i => w8 ((n - 254).fdiv (2 ^ (56 - 8 * i)))
def put1 (n : Int) : List Int := if n < 255 then [w8 n] else 255 :: hi8 n 0
def puts (l : List Int) : List Int := l.flatMap put1
theorem hi8_next {n : Int} {i : Nat} (h : i < 8) : hi8 n i = w8 ((n - 254).fdiv (2 ^ (56 - 8 * i))) :: hi8 n (i + 1) := by
 obtain ⟨k, hk⟩ : ∃ k, 8 - i = k + 1 := ⟨7 - i, by omega⟩
 simp only [hi8, hk, List.range'_succ, List.map_cons]
 rw [show 8 - (i + 1) = k by omega]
theorem hi8_len (n : Int) : (hi8 n 0).length = 8 := by simp [hi8]
theorem put1_len (n : Int) : (put1 n).length ≤ 9 := by
 unfold put1
 split
 ·simp
 ·simp [hi8_len]
theorem puts_len (l : List Int) : (puts l).length ≤ 9 * l.length := by
 induction l with
 | nil => simp [puts]
 | cons n l ih =>
  have := put1_len n
  simp only [puts, List.flatMap_cons, List.length_append, List.length_cons] at ih ⊢
  omega
theorem puts_next {l : List Int} {j : Nat} (hj : j < l.length) : puts (l.take (j + 1)) = puts (l.take j) ++ put1 l[j] := by
 rw [take_next hj, puts, List.flatMap_append]
 simp [puts]
theorem puts_app (l m : List Int) : puts (l ++ m) = puts l ++ puts m := List.flatMap_append ..

abbrev BR (lo : Nat) (h : Heap) (v : AV) (M : List Int) : Prop := GR 1 lo h v (bys M)
theorem BR.put {lo : Nat} {h : Heap} {v : AV} {M : List Int} (hr : BR lo h v M) (hlo : lo ≤ h.next) (hm : M.length ≤ 1000000000) (x : Int) :
  ∃ v' g', eV (.append 1 1) [v, .sl h.next 0 1 1 false] (h.new (.cells [.int .u8 x] true 0)) = some (v', g') ∧ BR lo g' v' (M ++ [x]) ∧ h.next ≤ g'.next ∧ ∀ c, c < lo → g'.get c = h.get c := by
 have := GR.app (bytes := 1) hr hlo (x := .int .u8 x) rfl rfl (size_bys M) (by rw [len_bys]; omega) (by rw [len_bys]; omega)
 rw [show bys M ++ [AV.int .u8 x] = bys (M ++ [x]) from (app_bys M [x]).symm] at this
 exact this

theorem put_in {kx : Nat} {l : List Int} {j : Nat} {n : Int} (hn : 255 ≤ n) (hn2 : n ≤ 9007199254740991) {h0 : Heap} {B : Nat} {Q : AX → Env → Heap → Prop} :
  ∀ (m i : Nat) (h : Heap) (env : Env) (v : AV) (M : List Int), 8 - i = m → i ≤ 8 → BR h0.next h v M → Fr h0 h [] → M.length + m ≤ 1000000000 →
   AllAt env [(6, v), (8, .int .i64 n), (9, .int .i64 (56 - 8 * ((i : Nat) : Int))), (12, .fz kx (ints l)), (13, .int .i64 ((l.length : Nat) : Int)), (14, .int .i64 ((j : Nat) : Int))] →
   (∀ e' h' v', BR h0.next h' v' (M ++ hi8 n i) → Fr h0 h' [] → AllAt e' [(6, v'), (12, .fz kx (ints l)), (13, .int .i64 ((l.length : Nat) : Int)), (14, .int .i64 ((j : Nat) : Int))] → Q (.exit 3) e' h') →
   VC fs ms B false (.loop L_pack_Put_1) env h Q := by
 intro m
 induction m with
 | zero =>
  intro i h env v M hm hi hr fr hM henv hQ
  have h8 : i = 8 := by omega
  refine vc_slots 4 _ henv ?_
  refine vc_loopV (vpC_sound (z := true) ?_)
  set_option smartUnfolding false in conv => whnf
  refine brf (by simp; omega) (fun hc => ?_)
  (try rw [hc])
  set_option smartUnfolding false in conv => whnf
  refine hQ _ _ v (by simpa [hi8, h8] using hr) fr ⟨rfl, rfl, rfl, rfl, trivial⟩
 | succ m ih =>
  intro i h env v M hm hi hr fr hM henv hQ
  refine vc_slots 4 _ henv ?_
  refine vc_loopV (vpC_sound (z := true) ?_)
  set_option smartUnfolding false in conv => whnf
  refine brt (by simp; omega) (fun hc => ?_)
  (try rw [hc])
  set_option smartUnfolding false in conv => whnf
  have hs : (56 : Int) - 8 * ((i : Nat) : Int) = ((56 - 8 * i : Nat) : Int) := by omega
  have hw : IntKind.i64.wrap (IntKind.i64.wrap (n - 255) + 1) = n - 254 := by
   rw [IntWalk.i64_in (n - 255) (by omega), IntWalk.i64_in _ (by omega)]; omega
  rw [hw, hs]
  refine ⟨_, shr_val _ (by omega), ?_⟩
  set_option smartUnfolding false in conv => whnf
  obtain ⟨v', g', ha, hr', hnx, hkp⟩ := hr.put fr.next (by omega) (w8 ((n - 254).fdiv (2 ^ (56 - 8 * i))))
  refine ⟨_, _, ha, ?_⟩
  set_option smartUnfolding false in conv => whnf
  have fr' := fr.app hnx hkp
  refine ih (i + 1) _ _ v' _ (by omega) (by omega) hr' fr' (by rw [List.length_append]; simp; omega) ⟨rfl, rfl, ?_, rfl, rfl, rfl, trivial⟩ ?_
  ·show some (AV.int .i64 (IntKind.i64.wrap (((56 - 8 * i : Nat) : Int) - 8))) = _
   rw [IntWalk.i64_in _ (by omega)]
   congr 2
   omega
  ·intro e' h' v'' hr2 fr2 ha2
   rw [List.append_assoc, List.singleton_append, ← hi8_next (by omega)] at hr2
   exact hQ e' h' v'' hr2 fr2 ha2

theorem put_l {kx : Nat} {b l : List Int} (hl : ∀ n ∈ l, badN n = false) (hsz : b.length + 9 * l.length ≤ 1000000000) {h0 : Heap} {B : Nat} {Q : AX → Env → Heap → Prop}
  (hQ : ∀ e' h' v', BR h0.next h' v' (b ++ puts l) → Fr h0 h' [] → Tr.get e' 6 = some v' → Q (.exit 0) e' h') :
  ∀ (m j : Nat) (h : Heap) (env : Env) (v : AV), l.length - j = m → j ≤ l.length → BR h0.next h v (b ++ puts (l.take j)) → Fr h0 h [] →
   AllAt env [(6, v), (12, .fz kx (ints l)), (13, .int .i64 ((l.length : Nat) : Int)), (14, .int .i64 ((j : Nat) : Int))] →
   VC fs ms B false (.loop L_pack_Put_0) env h Q := by
 intro m
 induction m with
 | zero =>
  intro j h env v hm hj hr fr henv
  have he : j = l.length := by omega
  subst he
  refine vc_slots 4 _ henv ?_
  refine vc_loopV (vpC_sound (z := true) ?_)
  set_option smartUnfolding false in conv => whnf
  refine brf (by simp) (fun hc => ?_)
  (try rw [hc])
  set_option smartUnfolding false in conv => whnf
  exact hQ _ _ v (by simpa using hr) fr rfl
 | succ m ih =>
  intro j h env v hm hj hr fr henv
  have hlt : j < l.length := by omega
  have hpl := puts_len (l.take j)
  rw [List.length_take, Nat.min_eq_left (by omega)] at hpl
  have hb : (b ++ puts (l.take j)).length + 9 ≤ 1000000000 := by rw [List.length_append]; omega
  have hnx := puts_next hlt
  have hbad := hl _ (List.getElem_mem hlt)
  have hix := idx_int (k := kx) hlt
  generalize hx : l[j] = n at *
  simp only [badN, Bool.or_eq_false_iff, decide_eq_false_iff_not] at hbad
  have hnext : ∀ e' h' v', BR h0.next h' v' (b ++ puts (l.take j) ++ put1 n) → Fr h0 h' [] → AllAt e' [(6, v'), (12, .fz kx (ints l)), (13, .int .i64 ((l.length : Nat) : Int)), (14, .int .i64 ((j : Nat) : Int))] →
    VC fs ms B false (.ops [zP 49 (.bin .add) [.t 14, .c (.int .i64 1)], zM 14 49]) e' h' (fun x e1 h1 => match x with | .normal => VC fs ms B false (.loop L_pack_Put_0) e1 h1 Q | x => Q x e1 h1) := by
   intro e' h' v' hr' fr' ha'
   refine vc_slots 4 _ ha' (vpC_sound (z := true) ?_)
   set_option smartUnfolding false in conv => whnf
   rw [List.append_assoc, ← hnx] at hr'
   exact ih (j + 1) h' _ v' (by omega) (by omega) hr' fr' ⟨rfl, rfl, rfl, inc_slot (by omega), trivial⟩
  refine vc_slots 4 _ henv ?_
  refine vc_loopV (vc_seq true ?_)
  set_option smartUnfolding false in conv => whnf
  refine vc_seq true ?_
  set_option smartUnfolding false in conv => whnf
  refine brt (by simp; omega) (fun hc => ?_)
  (try rw [hc])
  set_option smartUnfolding false in conv => whnf
  refine vc_seqV (vpC_sound (z := true) ?_)
  set_option smartUnfolding false in conv => whnf
  refine ⟨_, hix, ?_⟩
  set_option smartUnfolding false in conv => whnf
  refine ⟨.int .i64 n, rfl, ?_⟩
  set_option smartUnfolding false in conv => whnf
  refine brf (by simp; omega) (fun hc => ?_)
  (try rw [hc])
  set_option smartUnfolding false in conv => whnf
  refine brf (by simp; omega) (fun hc => ?_)
  (try rw [hc])
  set_option smartUnfolding false in conv => whnf
  refine br (fun hc => ?_) (fun hc => ?_) <;> (try rw [hc]) <;> (set_option smartUnfolding false in conv => whnf)
  ·have h255 : n < 255 := of_decide_eq_true hc
   obtain ⟨v', g', ha, hr', hnx', hkp⟩ := hr.put fr.next (by omega) (w8 n)
   refine ⟨_, _, ha, ?_⟩
   set_option smartUnfolding false in conv => whnf
   refine hnext _ _ v' (by rw [put1, if_pos h255]; exact hr') (fr.app hnx' hkp) ⟨rfl, rfl, rfl, rfl, trivial⟩
  ·have h255 : ¬ n < 255 := of_decide_eq_false hc
   obtain ⟨v', g', ha, hr', hnx', hkp⟩ := hr.put fr.next (by omega) 255
   refine ⟨_, _, ha, ?_⟩
   set_option smartUnfolding false in conv => whnf
   refine put_in (kx := kx) (l := l) (j := j) (n := n) (h0 := h0) (by omega) (by omega) 8 0 _ _ v' _ rfl (by omega) hr' (fr.app hnx' hkp) (by rw [List.length_append]; simp; omega) ⟨rfl, rfl, rfl, rfl, rfl, rfl, trivial⟩ ?_
   intro e' h' v'' hr2 fr2 ha2
   set_option smartUnfolding false in conv => whnf
   refine hnext e' h' v'' ?_ fr2 ha2
   rw [put1, if_neg h255]
   rw [List.append_assoc] at hr2
   exact hr2

theorem clone_c (b : List Int) (hsz : b.length ≤ 1000000) {h : Heap} {Q : AV → Heap → Prop} (hQ : ∀ v h', BR h.next h' v b → Fr h h' [] → Q v h') : VD fs ms f_slices_Clone_byte_byte [.fz (growK b.length) (bys b)] h Q := by
 refine vd_start (af := C_slices_Clone_byte_byte) true rfl (yB rfl) ?_
 cases hb : b with
 | nil =>
  set_option smartUnfolding false in conv => whnf
  exact hQ _ _ (by rw [hb]; exact GR.nil) (Fr.refl _ _)
 | cons x r =>
  set_option smartUnfolding false in conv => whnf
  have ha : eV (.append 1 1) [.sl h.next 0 0 0 false, .fz 0 (bys (x :: r))] (h.new (.cells [] true 0)) = some (.sl (h.next + 1) 0 (r.length + 1) (r.length + 1) true, (h.new (.cells [] true 0)).new (.cells (bys (x :: r)) true 1)) := by
   have := app_lit (s := 1) (bytes := 1) (n := r.length) (b := h.next) (nx := (h.new (.cells [] true 0)).next) (tr := (h.new (.cells [] true 0)).m) (x := .fz 0 (bys (x :: r))) (cs := bys (x :: r)) (wr := true) (es := 0) get_new_same (by omega) (by rw [hb] at hsz; simp at hsz; omega) (by
    have := src_fz (k := 0) (h := (h.new (.cells [] true 0))) (size_bys (x :: r))
    rw [flat_bys, len_bys] at this
    exact this) (flatL_bys _)
   exact this
  refine ⟨_, _, ha, ?_⟩
  set_option smartUnfolding false in conv => whnf
  refine hQ _ _ ?_ ((Fr.refl _ _).new.new)
  rw [hb]
  refine .inr ⟨by simp [bys], h.next + 1, by omega, Nat.lt_succ_self _, by rw [len_bys]; rfl, ?_⟩
  rw [flat_bys]
  exact get_new_same (h := h.new (.cells [] true 0))
theorem put_c {kx : Nat} (b l : List Int) (hl : ∀ n ∈ l, badN n = false) (hsz : b.length + 9 * l.length ≤ 1000000) {h : Heap} {Q : AV → Heap → Prop} (hQ : ∀ v h', BR h.next h' v (b ++ puts l) → Fr h h' [] → Q (.tup [v, .int .i64 0]) h') :
  VD fs ms f_pack_Put [.fz (growK b.length) (bys b), .fz kx (ints l)] h Q := by
 refine vd_begin (af := C_pack_Put) rfl (yB rfl) ?_
 set_option smartUnfolding false in conv => whnf
 refine vc_seq true ?_
 set_option smartUnfolding false in conv => whnf
 refine vc_seq true ?_
 set_option smartUnfolding false in conv => whnf
 refine clone_c b (by omega) fun v h1 hr fr => ?_
 set_option smartUnfolding false in conv => whnf
 refine vc_seqV (vc_seq true ?_)
 set_option smartUnfolding false in conv => whnf
 rw [len_ints]
 refine vc_block ?_
 refine put_l (kx := kx) (b := b) (l := l) (h0 := h) hl (by omega) ?_ l.length 0 _ _ v rfl (Nat.zero_le _) (by simpa [puts] using hr) fr ⟨rfl, rfl, rfl, rfl, trivial⟩
 intro e' h' v' hr' fr' h6
 set_option smartUnfolding false in conv => whnf
 refine vc_slots 3 [(6, v')] ⟨h6, trivial⟩ (vpC_sound (z := true) ?_)
 set_option smartUnfolding false in conv => whnf
 exact hQ v' h' hr' fr'
def OwnB (v : AV) (d : Nat) : Prop := ∃ o n c p, v = .sl d o n c p
theorem BR.own {lo : Nat} {h : Heap} {v : AV} {M : List Int} (hr : BR lo h v M) {d : Nat} (ho : OwnB v d) : lo ≤ d ∧ d < h.next := by
 obtain ⟨o, n, c, p, rfl⟩ := ho
 rcases hr with ⟨_, h⟩ | ⟨_, b, h1, h2, h3, _⟩
 ·simp at h
 ·simp only [AV.sl.injEq] at h3
  obtain ⟨rfl, _⟩ := h3
  exact ⟨h1, h2⟩
theorem BR.frzO {lo : Nat} {h : Heap} {v : AV} {M : List Int} (hr : BR lo h v M) : ∃ bs : List Nat, Frz (· ∈ bs) h v (.fz (growK M.length) (bys M)) ∧ ∀ b ∈ bs, OwnB v b := by
 rcases hr with ⟨hM, rfl⟩ | ⟨hne0, b, h1, h2, rfl, h4⟩
 ·have : M = [] := by cases M with | nil => rfl | cons x r => simp [bys] at hM
  subst this
  exact ⟨[], .nils, by simp⟩
 ·cases M with
  | nil => exact absurd rfl hne0
  | cons m M => exact ⟨[b], frz_open (by simp) h4 rfl (size_bys _) rfl (cl_bys _), by simp [OwnB]⟩
theorem put_g {b l : List Int} (hl : ∀ n ∈ l, badN n = false) (hsz : b.length + 9 * l.length ≤ 1000000) {lo c : Nat} {h : Heap} {v : AV} (hr : BR lo h v b) (hg : h.get c = some (.cells (ints l) true 0)) {Q : AV → Heap → Prop}
  (hQ : ∀ v' h', BR h.next h' v' (b ++ puts l) → h.next ≤ h'.next → (∀ d, d < h.next → d ≠ c → ¬ OwnB v d → h'.get d = h.get d) → Q (.tup [v', .int .i64 0]) h') :
  VD fs ms f_pack_Put [v, .sl c 0 l.length l.length false] h Q := by
 obtain ⟨bs, hf, hbs⟩ := hr.frzO
 refine vd_frz (args' := [.fz (growK b.length) (bys b), .fz 2 (ints l)]) (c :: bs) (.cons (Frz.mono (fun i hi => List.mem_cons_of_mem _ hi) hf) (.cons (.row (s := 1) (wr := true) (es := 0) (by simp) hg (flat_ints l).symm (size_ints l) (len_ints l).symm (Nat.le_refl _) (by omega) (fun _ => rfl) (fun _ => rfl) (cl_ints l)) .nil)) ?_
 refine put_c b l hl hsz fun v' h' hr' fr' => hQ v' h' ?_ ?_ ?_
 ·rw [delAll_next] at hr'
  exact hr'
 ·have := fr'.next
  rw [delAll_next] at this
  exact this
 ·intro d hdl hdc hdo
  rw [fr'.keep d (by rw [delAll_next]; exact hdl) (by simp), delAll_get, if_neg (fun hm => (List.mem_cons.1 hm).elim hdc (fun h => hdo (hbs d h)))]
def strB (s : List UInt8) : List Int := s.map fun b => (b.toNat : Int)
theorem strB_len (s : List UInt8) : (strB s).length = s.length := List.length_map ..
theorem src_str (s : List UInt8) (h : Heap) : srcV 1 h (.str s) = some ((bys (strB s)).length, flatCells (bys (strB s))) := by
 rw [flat_bys, len_bys, strB_len]
 simp [srcV, srcCells, bys, strB, Function.comp_def]
def txt (s : List UInt8) : List Int := puts [(s.length : Int)] ++ strB s
theorem txt_len (s : List UInt8) : (txt s).length ≤ 9 + s.length := by
 have := puts_len [(s.length : Int)]
 simp only [List.length_cons, List.length_nil] at this
 rw [txt, List.length_append, strB_len]
 omega
theorem badN_len {n : Nat} (h : n ≤ 9007199254740991) : badN (n : Int) = false := by
 simp only [badN, Bool.or_eq_false_iff, decide_eq_false_iff_not]
 omega
theorem BR.txt {lo : Nat} {h : Heap} {v : AV} {M : List Int} (hr : BR lo h v M) (hlo : lo ≤ h.next) {s : List UInt8} (hm : M.length + s.length ≤ 1000000000) :
  ∃ v' g', eV (.append 1 1) [v, .str s] h = some (v', g') ∧ BR lo g' v' (M ++ strB s) ∧ h.next ≤ g'.next ∧ ∀ c, c < lo → g'.get c = h.get c := by
 have := GR.appN (bytes := 1) hr hlo (src_str s h) (by rw [flat_bys]; exact flatL_bys _) (size_bys M) (by rw [len_bys, len_bys, strB_len]; omega) (by rw [len_bys, len_bys, strB_len]; omega)
 rw [← app_bys] at this
 exact this
theorem BR.row {lo : Nat} {h : Heap} {v x : AV} {M X : List Int} (hr : BR lo h v M) (hlo : lo ≤ h.next) (hx : srcV 1 h x = some (X.length, bys X)) (hm : M.length + X.length ≤ 1000000000) :
  ∃ v' g', eV (.append 1 1) [v, x] h = some (v', g') ∧ BR lo g' v' (M ++ X) ∧ h.next ≤ g'.next ∧ ∀ c, c < lo → g'.get c = h.get c := by
 have := GR.appN (bytes := 1) (X := bys X) hr hlo (by rw [len_bys, flat_bys]; exact hx) (by rw [flat_bys]; exact flatL_bys _) (size_bys M) (by rw [len_bys, len_bys]; omega) (by rw [len_bys, len_bys]; omega)
 rw [← app_bys] at this
 exact this
theorem BR.src {lo : Nat} {h : Heap} {v : AV} {M : List Int} (hr : BR lo h v M) : srcV 1 h v = some (M.length, bys M) := by
 rcases hr with ⟨h1, rfl⟩ | ⟨hne, b, h1, h2, rfl, h4⟩
 ·have : M = [] := by cases M with | nil => rfl | cons x r => simp [bys] at h1
  subst this
  rfl
 ·rw [len_bys] at *
  rw [flat_bys] at h4
  exact src_nv h4 (by rw [len_bys, Nat.mul_one])
theorem BR.new {lo : Nat} {h : Heap} {v : AV} {M : List Int} {x : Blk} (hr : BR lo h v M) : BR lo (h.new x) v M := by
 rcases hr with hr | ⟨hne0, b, h1, h2, h3, h4⟩
 ·exact .inl hr
 ·exact .inr ⟨hne0, b, h1, Nat.lt_succ_of_lt h2, h3, by rw [get_new_ne h2]; exact h4⟩

theorem text_g {b : List Int} {s : List UInt8} (hs : s.length ≤ 16) (hsz : b.length ≤ 900000) {lo : Nat} {h : Heap} {v : AV} (hr : BR lo h v b) {Q : AV → Heap → Prop}
  (hQ : ∀ v' h', BR h.next h' v' (b ++ txt s) → h.next ≤ h'.next → (∀ d, d < h.next → ¬ OwnB v d → h'.get d = h.get d) → Q (.tup [v', .int .i64 0]) h') :
  VD fs ms f_pack_PutText [v, .str s] h Q := by
 refine vd_start (af := C_pack_PutText) true rfl (yB rfl) ?_
 set_option smartUnfolding false in conv => whnf
 refine brf (by simp; omega) (fun hc => ?_)
 (try rw [hc])
 set_option smartUnfolding false in conv => whnf
 refine put_g (l := [(s.length : Int)]) (c := h.next) (by intro n hn; simp at hn; subst hn; exact badN_len (by omega)) (by simp; omega) hr.new get_new_same fun v' h' hr' hn' hk' => ?_
 set_option smartUnfolding false in conv => whnf
 have hpl := puts_len [(s.length : Int)]
 simp only [List.length_cons, List.length_nil] at hpl
 obtain ⟨v2, g2, ha, hr2, hn2, hk2⟩ := hr'.txt (s := s) hn' (by rw [List.length_append]; omega)
 refine ⟨_, _, ha, ?_⟩
 set_option smartUnfolding false in conv => whnf
 have hnn : h.next + 1 ≤ h'.next := hn'
 exact hQ v2 g2 (by rw [List.append_assoc] at hr2; exact hr2.low (Nat.le_succ _)) (by omega) (fun d hd ho => by rw [hk2 d (Nat.lt_succ_of_lt hd), hk' d (Nat.lt_succ_of_lt hd) (by omega) ho, get_new_ne (by omega)])

/- The document's. -/
theorem opt_go {α : Type} {x : Option α} {v : α} {f : α → Prop} (hx : x = some v) (hf : f v) : @Option.rec α (fun _ => Prop) False f x := by
 subst hx; exact hf
theorem res_cell {e : Env} {h : Heap} {a b o es : Nat} {wr : Bool} {vs : List AV} {w : AV} (ha : Tr.get e a = some (.ptr b o)) (hg : h.get b = some (.cells vs wr es)) (hv : vs[o]? = some w) : resAllV e h [.cell a 1 false] = some [w] := by
 have : h.load1 b o = some w := by simp only [Heap.load1, Heap.row, hg, hv]
 simp only [resAllV, resOfV, ha, cond_false, this]
theorem vc_rangeL {B : Nat} {g : Rand} {ps : List Nat} {a b : AC} {e : Env} {h : Heap} {f : Nat} {first capt : List AV} {Q : AX → Env → Heap → Prop} (L : Nat) (hL : h.next = L) (hao : argsOk e [g] = true) (hev : Env.ev e g = .func (.func f) first capt)
  (hw : VD fs ms f (first ++ (.yield L :: capt)) (h.new (.loop 0 none e ps a b)) fun _ h2 => ∃ x st, h2.get L = some (.loop st (pendOf x) e ps a b) ∧ st ≠ 1 ∧ (∀ v, x ≠ .panic v) ∧ Q x e (h2.set L (.loop 3 (pendOf x) e ps a b))) :
  VC fs ms B false (.rangeFunc g ps a b) e h Q := by
 subst hL
 exact vc_range hao hev hw
def nums (x : TCmd) : List Int := [x.k, x.p, x.t, x.n, x.m]
def opB (o : TOp) : List Int := puts [o.k, o.n] ++ txt o.s
def opsB (l : List TOp) : List Int := l.flatMap opB
def entB (x : TCmd) : List Int := puts (nums x) ++ puts [(x.ops.length : Int)] ++ opsB x.ops
theorem opsB_next {l : List TOp} {j : Nat} (hj : j < l.length) : opsB (l.take (j + 1)) = opsB (l.take j) ++ opB l[j] := by
 rw [take_next hj, opsB, List.flatMap_append]
 simp [opsB]
theorem opB_len {o : TOp} (h : o.s.length ≤ 16) : (opB o).length ≤ 43 := by
 have h1 := puts_len [o.k, o.n]
 have h2 := txt_len o.s
 simp only [List.length_cons, List.length_nil] at h1
 rw [opB, List.length_append]
 omega
theorem opsB_len : ∀ {l : List TOp}, (∀ o ∈ l, o.s.length ≤ 16) → (opsB l).length ≤ 43 * l.length
 | [], _ => by simp [opsB]
 | o :: l, h => by
  have h1 := opB_len (h o (by simp))
  have h2 := opsB_len (l := l) (fun o ho => h o (by simp [ho]))
  simp only [opsB, List.flatMap_cons, List.length_append, List.length_cons] at h2 ⊢
  omega
structure Good (x : TCmd) : Prop where
 hn : ∀ n ∈ nums x, badN n = false
 hl : x.ops.length ≤ 32
 ho : ∀ o ∈ x.ops, badN o.k = false ∧ badN o.n = false ∧ o.s.length ≤ 16
theorem good_of {x : TCmd} (h : chk x = 0) : Good x := by
 unfold chk at h
 split at h
 ·simp at h
 ·rename_i h1
  simp only [Bool.or_eq_true, not_or, Bool.not_eq_true] at h1
  split at h
  ·simp at h
  ·rename_i h2
   refine ⟨?_, by omega, fun o ho => ?_⟩
   ·intro n hn
    simp only [nums, List.mem_cons, List.not_mem_nil, or_false] at hn
    rcases hn with rfl | rfl | rfl | rfl | rfl <;> simp [h1]
   ·have h3 := opsE_zero h o ho
    unfold opE at h3
    split at h3
    ·simp at h3
    ·rename_i h4
     simp only [Bool.or_eq_true, not_or, Bool.not_eq_true] at h4
     split at h3
     ·simp at h3
     ·exact ⟨h4.1, h4.2, by omega⟩
theorem entB_len {x : TCmd} (h : Good x) : (entB x).length ≤ 1500 := by
 have h1 : (puts (nums x)).length ≤ 9 * 5 := puts_len (nums x)
 have h2 := puts_len [(x.ops.length : Int)]
 have h3 := opsB_len (fun o ho => (h.ho o ho).2.2)
 have h4 := h.hl
 simp only [List.length_cons, List.length_nil] at h2
 rw [entB, List.length_append, List.length_append]
 omega
theorem idx_ptrs {A j : Nat} (hj : j < 5) : pV (.idxA 1 5 false) [.agg [.ptr A 0, .ptr A 1, .ptr A 2, .ptr A 3, .ptr A 4], .int .i64 (j : Nat)] = some (.ptr A j) := by
 match j, hj with
 | 0, _ => rfl
 | 1, _ => rfl
 | 2, _ => rfl
 | 3, _ => rfl
 | 4, _ => rfl
theorem cell_num (x : TCmd) {j : Nat} (hj : j < (nums x).length) : (tcm x).cells[j]? = some (.int .i64 (nums x)[j]) := by
 match j, hj with
 | 0, _ => rfl
 | 1, _ => rfl
 | 2, _ => rfl
 | 3, _ => rfl
 | 4, _ => rfl

theorem BR.cell {lo : Nat} {h : Heap} {v : AV} {M : List Int} (hr : BR lo h v M) : v.cells.length = 1 ∧ flatL v.cells = true := by
 rcases hr with ⟨_, rfl⟩ | ⟨_, b, _, _, rfl, _⟩
 ·exact ⟨rfl, rfl⟩
 ·exact ⟨rfl, rfl⟩
theorem BR.cells {lo : Nat} {h : Heap} {v : AV} {M : List Int} (hr : BR lo h v M) : v.cells = [v] := by
 rcases hr with ⟨_, rfl⟩ | ⟨_, b, _, _, rfl, _⟩
 ·rfl
 ·rfl
def entE (A : Nat) : Env := ek 3 [(1, .ptr A 0), (2, .ptr (A + 1) 0), (6, .func (.func f_tape_fields_1) [] [.ptr (A + 2) 0])]
structure EntS (h0 : Heap) (x : TCmd) (j : Nat) (h : Heap) : Prop where
 fr : Fr h0 h []
 hA : h.get h0.next = some (.cells (tcm x).cells true 0)
 hB : ∃ v, h.get (h0.next + 1) = some (.cells [v] true 0) ∧ BR (h0.next + 4) h v (puts ((nums x).take j))
 hC : h.get (h0.next + 2) = some (.cells [.ptr h0.next 0] true 0)
 hL : h.get (h0.next + 3) = some (.loop 0 none (entE h0.next) [7] L_tape_entry_0a L_tape_entry_0b)
 nx : h0.next + 4 ≤ h.next
theorem ent_l {h0 : Heap} {x : TCmd} (hg : Good x) {B : Nat} {Q : AX → Env → Heap → Prop} (hQ : ∀ e' h', EntS h0 x 5 h' → Q (.exit 0) e' h') :
  ∀ (m j : Nat) (h : Heap) (env : Env), 5 - j = m → j ≤ 5 → EntS h0 x j h → AllAt env [(0, .yield (h0.next + 3)), (20, .agg [.ptr h0.next 0, .ptr h0.next 1, .ptr h0.next 2, .ptr h0.next 3, .ptr h0.next 4]), (21, .int .i64 ((j : Nat) : Int))] →
   VC fs ms B false (.loop L_tape_fields_1_0) env h Q := by
 intro m
 induction m with
 | zero =>
  intro j h env hm hj hs henv
  have he : j = 5 := by omega
  refine vc_slots 5 _ henv ?_
  refine vc_loopV (vpC_sound (z := true) ?_)
  set_option smartUnfolding false in conv => whnf
  refine brf (by simp; omega) (fun hc => ?_)
  (try rw [hc])
  set_option smartUnfolding false in conv => whnf
  subst he
  exact hQ _ _ hs
 | succ m ih =>
  intro j h env hm hj hs henv
  have hlt : j < 5 := by omega
  refine vc_slots 5 _ henv ?_
  refine vc_loopV (vpC_sound (z := true) ?_)
  set_option smartUnfolding false in conv => whnf
  refine brt (by simp; omega) (fun hc => ?_)
  (try rw [hc])
  set_option smartUnfolding false in conv => whnf
  refine ⟨_, idx_ptrs hlt, ?_⟩
  set_option smartUnfolding false in conv => whnf
  obtain ⟨fr, hA, ⟨v, hB, hr⟩, hC, hL, nx⟩ := hs
  have hlo : h0.next + 4 ≤ h.next := nx
  have h1A : (h.set (h0.next + 3) (.loop 1 none (entE h0.next) [7] L_tape_entry_0a L_tape_entry_0b)).get h0.next = some (.cells (tcm x).cells true 0) := (get_set_ne (by omega)).trans hA
  have h1B : (h.set (h0.next + 3) (.loop 1 none (entE h0.next) [7] L_tape_entry_0a L_tape_entry_0b)).get (h0.next + 1) = some (.cells [v] true 0) := (get_set_ne (by omega)).trans hB
  have h1C : (h.set (h0.next + 3) (.loop 1 none (entE h0.next) [7] L_tape_entry_0a L_tape_entry_0b)).get (h0.next + 2) = some (.cells [.ptr h0.next 0] true 0) := (get_set_ne (by omega)).trans hC
  have h1L : (h.set (h0.next + 3) (.loop 1 none (entE h0.next) [7] L_tape_entry_0a L_tape_entry_0b)).get (h0.next + 3) = some (.loop 1 none (entE h0.next) [7] L_tape_entry_0a L_tape_entry_0b) := get_set_same
  have h1r : BR (h0.next + 4) (h.set (h0.next + 3) (.loop 1 none (entE h0.next) [7] L_tape_entry_0a L_tape_entry_0b)) v (puts ((nums x).take j)) := hr.keep ((Fr.refl h [h0.next + 3]).set (by simp)) (by simp)
  have h1f : Fr h0 (h.set (h0.next + 3) (.loop 1 none (entE h0.next) [7] L_tape_entry_0a L_tape_entry_0b)) [] := fr.setn (by omega)
  have h1n : h0.next + 4 ≤ (h.set (h0.next + 3) (.loop 1 none (entE h0.next) [7] L_tape_entry_0a L_tape_entry_0b)).next := nx
  refine vd_yield hL rfl ?_
  refine vpC_sound (z := true) ?_
  set_option smartUnfolding false in conv => whnf
  refine ⟨rfl, none, hL, ?_⟩
  generalize (h.set (h0.next + 3) (.loop 1 none (entE h0.next) [7] L_tape_entry_0a L_tape_entry_0b)) = H at *
  refine vpC_sound (z := true) ?_
  set_option smartUnfolding false in conv => whnf
  refine ⟨v, ld1 h1B rfl, ?_⟩
  set_option smartUnfolding false in conv => whnf
  refine ⟨_, ld1 h1A (cell_num x (j := j) hlt), ?_⟩
  set_option smartUnfolding false in conv => whnf
  have hbn : badN (nums x)[j] = false := hg.hn _ (List.getElem_mem _)
  have hpl : (puts ((nums x).take j)).length ≤ 45 := by
   have := puts_len ((nums x).take j)
   rw [List.length_take] at this
   omega
  refine put_g (l := [(nums x)[j]]) (c := H.next) (by intro n hn; simp at hn; subst hn; exact hbn) (by simp; omega) h1r.new get_new_same fun v' h' hr' hn' hk' => ?_
  have hn2 : H.next + 1 ≤ h'.next := hn'
  replace hr' : BR (h0.next + 4) h' v' _ := hr'.low (Nat.le_succ_of_le h1n)
  have hk2 : ∀ d, d < h0.next + 4 → h'.get d = H.get d := fun d hd => (hk' d (by show d < H.next + 1; omega) (by omega) (fun ho => by have := (h1r.own ho).1; omega)).trans (get_new_ne (by omega))
  set_option smartUnfolding false in conv => whnf
  obtain ⟨hv1, hv2⟩ := hr'.cell
  refine ⟨_, _, sto_o ((hk2 _ (by omega)).trans h1B) hv1 (Nat.le_refl _) hv2, ?_⟩
  set_option smartUnfolding false in conv => whnf
  refine ⟨by simp, ⟨1, none, (get_set_ne (by omega)).trans ((hk2 _ (by omega)).trans h1L)⟩, ?_⟩
  set_option smartUnfolding false in conv => whnf
  have hsp : Heap.splice [v] 0 v'.cells = [v'] := by rw [hr'.cells]; rfl
  rw [hsp]
  have hf2 : Fr h0 h' [] := h1f.app (by omega) (fun c hc => hk2 c (by omega))
  refine ih (j + 1) _ _ (by omega) (by omega) ⟨(hf2.setn (by omega)).setn (by omega), ?_, ⟨v', ?_, ?_⟩, ?_, get_set_same, ?_⟩ ⟨rfl, rfl, inc_slot (by omega), trivial⟩
  ·exact (get_set_ne (by omega)).trans ((get_set_ne (by omega)).trans ((hk2 _ (by omega)).trans h1A))
  ·exact (get_set_ne (by omega)).trans get_set_same
  ·rw [take_next (l := nums x) (j := j) hlt, puts_app]
   exact (hr'.keep ((Fr.refl h' [h0.next + 1]).set (by simp)) (by simp)).keep ((Fr.refl _ [h0.next + 3]).set (by simp)) (by simp)
  ·exact (get_set_ne (by omega)).trans ((get_set_ne (by omega)).trans ((hk2 _ (by omega)).trans h1C))
  ·show h0.next + 4 ≤ h'.next
   omega
theorem entf_c {h0 h : Heap} {x : TCmd} (hg : Good x) (hs : EntS h0 x 0 h) {Q : AV → Heap → Prop} (hQ : ∀ v h', EntS h0 x 5 h' → Q v h') : VD fs ms f_tape_fields_1 [.yield (h0.next + 3), .ptr (h0.next + 2) 0] h Q := by
 refine vd_begin (af := C_tape_fields_1) rfl (yB rfl) ?_
 set_option smartUnfolding false in conv => whnf
 refine vc_seq true ?_
 set_option smartUnfolding false in conv => whnf
 repeat (first | (refine ⟨_, ld1 hs.hC rfl, ?_⟩; set_option smartUnfolding false in conv => whnf))
 refine vc_block ?_
 refine ent_l hg (h0 := h0) (x := x) ?_ 5 0 _ _ rfl (Nat.zero_le _) hs ⟨rfl, rfl, rfl, trivial⟩
 intro e' h' hs'
 exact hQ _ h' hs'
theorem fields_c {A : Nat} {h : Heap} {Q : AV → Heap → Prop} (hQ : Q (.func (.func f_tape_fields_1) [] [.ptr h.next 0]) (h.new (.cells [.ptr A 0] true 0))) : VD fs ms f_tape_fields [.ptr A 0] h Q := by
 refine vd_start (af := C_tape_fields) true rfl (yB rfl) ?_
 set_option smartUnfolding false in conv => whnf
 exact hQ
structure EntT (h0 : Heap) (x : TCmd) (L : List Int) (h : Heap) : Prop where
 fr : Fr h0 h []
 hA : h.get h0.next = some (.cells (tcm x).cells true 0)
 hB : ∃ v, h.get (h0.next + 1) = some (.cells [v] true 0) ∧ BR (h0.next + 4) h v L
 nx : h0.next + 4 ≤ h.next
theorem ento_l {h0 : Heap} {x : TCmd} (hg : Good x) {P : List Int} (hP : P.length ≤ 100) {B : Nat} {Q : AX → Env → Heap → Prop} (hQ : ∀ e' h', EntT h0 x (P ++ opsB x.ops) h' → Tr.get e' 2 = some (.ptr (h0.next + 1) 0) → Q (.exit 2) e' h') :
  ∀ (m j : Nat) (h : Heap) (env : Env), x.ops.length - j = m → j ≤ x.ops.length → EntT h0 x (P ++ opsB (x.ops.take j)) h → AllAt env [(2, .ptr (h0.next + 1) 0), (27, .fz x.kk (tops x.ops)), (28, .int .i64 ((x.ops.length : Nat) : Int)), (29, .int .i64 ((j : Nat) : Int))] →
   VC fs ms B false (.loop L_tape_entry_1) env h Q := by
 intro m
 induction m with
 | zero =>
  intro j h env hm hj hs henv
  have he : j = x.ops.length := by omega
  refine vc_slots 5 _ henv ?_
  refine vc_loopV (vpC_sound (z := true) ?_)
  set_option smartUnfolding false in conv => whnf
  refine brf (by simp; omega) (fun hc => ?_)
  (try rw [hc])
  set_option smartUnfolding false in conv => whnf
  subst he
  exact hQ _ _ (by simpa using hs) rfl
 | succ m ih =>
  intro j h env hm hj hs henv
  have hlt : j < x.ops.length := by omega
  have hix := idx_top (k := x.kk) hlt
  have ho := hg.ho _ (List.getElem_mem hlt)
  have hnx := opsB_next hlt
  have hpl : (opsB (x.ops.take j)).length ≤ 43 * 32 := by
   have := opsB_len (l := x.ops.take j) (fun o ho => (hg.ho o (List.mem_of_mem_take ho)).2.2)
   have h2 := hg.hl
   rw [List.length_take] at this
   omega
  generalize hO : x.ops[j] = o at *
  have h62 := hg.hl
  refine vc_slots 5 _ henv ?_
  refine vc_loopV (vpC_sound (z := true) ?_)
  set_option smartUnfolding false in conv => whnf
  refine brt (by simp; omega) (fun hc => ?_)
  (try rw [hc])
  set_option smartUnfolding false in conv => whnf
  refine ⟨_, hix, ?_⟩
  set_option smartUnfolding false in conv => whnf
  refine ⟨top o, rfl, ?_⟩
  set_option smartUnfolding false in conv => whnf
  obtain ⟨fr, hA, ⟨v, hB, hr⟩, nx⟩ := hs
  refine eff_o (sto_o get_new_same rfl (Nat.le_refl _) rfl) fun h1 e1 => ?_
  have h1A : h1.get h0.next = some (.cells (tcm x).cells true 0) := by rw [e1]; exact (get_set_ne (by omega)).trans ((get_new_ne (by omega)).trans hA)
  have h1B : h1.get (h0.next + 1) = some (.cells [v] true 0) := by rw [e1]; exact (get_set_ne (by omega)).trans ((get_new_ne (by omega)).trans hB)
  have h1c : h1.get h.next = some (.cells (top o).cells true 0) := by rw [e1, get_set_same]; rfl
  have h1r : BR (h0.next + 4) h1 v (P ++ opsB (x.ops.take j)) := by
   rw [e1]
   exact hr.keep (T := []) (((Fr.refl h []).new).setn (Nat.le_refl _)) (by simp)
  have h1f : Fr h0 h1 [] := by rw [e1]; exact fr.new.setn fr.next
  have h1n : h1.next = h.next + 1 := by rw [e1]; rfl
  have hvo : ¬ OwnB v h.next := fun hw => by have := (hr.own hw).2; omega
  clear e1
  set_option smartUnfolding false in conv => whnf
  refine ⟨v, ld1 h1B rfl, ?_⟩
  set_option smartUnfolding false in conv => whnf
  refine ⟨_, ld1 h1c rfl, ?_⟩
  set_option smartUnfolding false in conv => whnf
  refine ⟨_, ld1 h1c rfl, ?_⟩
  set_option smartUnfolding false in conv => whnf
  have hn4 : h0.next + 4 ≤ h1.next := by omega
  refine put_g (l := [o.k, o.n]) (c := h1.next) (by intro n hn; simp at hn; rcases hn with rfl | rfl <;> simp [ho]) (by rw [List.length_append]; simp; omega) h1r.new get_new_same fun v' h2 hr' hn' hk' => ?_
  have hn2 : h1.next + 1 ≤ h2.next := hn'
  replace hr' : BR (h1.next + 1) h2 v' _ := hr'
  have hk2 : ∀ d, d < h1.next → ¬ OwnB v d → h2.get d = h1.get d := fun d hd hw => (hk' d (by show d < h1.next + 1; omega) (by omega) hw).trans (get_new_ne hd)
  have hvl : ∀ d, d < h0.next + 4 → ¬ OwnB v d := fun d hd hw => by have := (hr.own hw).1; omega
  set_option smartUnfolding false in conv => whnf
  obtain ⟨hv1, hv2⟩ := hr'.cell
  refine eff_o (sto_o ((hk2 _ (by omega) (hvl _ (by omega))).trans h1B) hv1 (Nat.le_refl _) hv2) fun h3 e3 => ?_
  have hsp : Heap.splice [v] 0 v'.cells = [v'] := by rw [hr'.cells]; rfl
  rw [hsp] at e3
  have h3A : h3.get h0.next = some (.cells (tcm x).cells true 0) := by rw [e3]; exact (get_set_ne (by omega)).trans ((hk2 _ (by omega) (hvl _ (by omega))).trans h1A)
  have h3B : h3.get (h0.next + 1) = some (.cells [v'] true 0) := by rw [e3]; exact get_set_same
  have h3c : h3.get h.next = some (.cells (top o).cells true 0) := by rw [e3]; exact (get_set_ne (by omega)).trans ((hk2 _ (by omega) hvo).trans h1c)
  have h3r : BR (h1.next + 1) h3 v' (P ++ opsB (x.ops.take j) ++ puts [o.k, o.n]) := by rw [e3]; exact hr'.keep ((Fr.refl h2 [h0.next + 1]).set (by simp)) (by simp; omega)
  have h3f : Fr h0 h3 [] := by rw [e3]; exact (h1f.app (by omega) (fun c hc => hk2 c (by omega) (hvl _ (by omega)))).setn (by omega)
  have h3n : h3.next = h2.next := by rw [e3]; rfl
  clear e3
  set_option smartUnfolding false in conv => whnf
  refine ⟨v', ld1 h3B rfl, ?_⟩
  set_option smartUnfolding false in conv => whnf
  refine ⟨_, ld1 h3c rfl, ?_⟩
  set_option smartUnfolding false in conv => whnf
  have hp2 := puts_len [o.k, o.n]
  simp only [List.length_cons, List.length_nil] at hp2
  refine text_g ho.2.2 (by rw [List.length_append, List.length_append]; omega) h3r fun v'' h4 hr4 hn4' hk4 => ?_
  have hvl2 : ∀ d, d < h0.next + 4 → ¬ OwnB v' d := fun d hd hw => by have := (h3r.own hw).1; omega
  set_option smartUnfolding false in conv => whnf
  obtain ⟨hw1, hw2⟩ := hr4.cell
  refine eff_o (sto_o ((hk4 _ (by omega) (hvl2 _ (by omega))).trans h3B) hw1 (Nat.le_refl _) hw2) fun h5 e5 => ?_
  have hsp2 : Heap.splice [v'] 0 v''.cells = [v''] := by rw [hr4.cells]; rfl
  rw [hsp2] at e5
  have h5s : EntT h0 x (P ++ opsB (x.ops.take (j + 1))) h5 := by
   rw [hnx, e5]
   refine ⟨(h3f.app (by omega) (fun c hc => hk4 c (by omega) (hvl2 _ (by omega)))).setn (by omega), ?_, ⟨v'', get_set_same, ?_⟩, ?_⟩
   ·exact (get_set_ne (by omega)).trans ((hk4 _ (by omega) (hvl2 _ (by omega))).trans h3A)
   ·rw [opB, ← List.append_assoc, ← List.append_assoc]
    refine (hr4.low (by omega)).keep ((Fr.refl h4 [h0.next + 1]).set (by simp)) (by simp)
   ·show h0.next + 4 ≤ h4.next
    omega
  clear e5
  set_option smartUnfolding false in conv => whnf
  exact ih (j + 1) h5 _ (by omega) (by omega) h5s ⟨rfl, rfl, rfl, inc_slot (by omega), trivial⟩

theorem ent_c {x : TCmd} (hg : Good x) {h : Heap} {Q : AV → Heap → Prop} (hQ : ∀ v h', BR h.next h' v (entB x) → Fr h h' [] → Q v h') : VD fs ms f_tape_entry [tcm x] h Q := by
 refine vd_begin (af := C_tape_entry) rfl (yB rfl) ?_
 set_option smartUnfolding false in conv => whnf
 refine vc_seq true ?_
 set_option smartUnfolding false in conv => whnf
 refine vc_seqV (vc_seq true ?_)
 set_option smartUnfolding false in conv => whnf
 refine fields_c ?_
 set_option smartUnfolding false in conv => whnf
 refine vc_block ?_
 refine vc_slots 3 [(1, .ptr h.next 0), (2, .ptr (h.next + 1) 0), (6, .func (.func f_tape_fields_1) [] [.ptr (h.next + 2) 0])] ⟨rfl, rfl, rfl, trivial⟩ ?_
 refine vc_rangeL (h.next + 3) rfl rfl rfl ?_
 refine entf_c hg (h0 := h) (x := x) ⟨?_, ?_, ⟨.nils, ?_, GR.nil⟩, ?_, ?_, ?_⟩ ?_
 ·exact (((Fr.refl h []).new).new).new.new
 ·exact (get_new_ne (show h.next < h.next + 3 by omega)).trans ((get_new_ne (show h.next < h.next + 2 by omega)).trans ((get_new_ne (show h.next < h.next + 1 by omega)).trans get_new_same))
 ·exact (get_new_ne (show h.next + 1 < h.next + 3 by omega)).trans ((get_new_ne (show h.next + 1 < h.next + 2 by omega)).trans (get_new_same (h := h.new _)))
 ·exact (get_new_ne (show h.next + 2 < h.next + 3 by omega)).trans (get_new_same (h := (h.new _).new _))
 ·exact get_new_same (h := ((h.new _).new _).new _)
 ·exact Nat.le_refl _
 intro v2 h2 hs
 refine ⟨.normal, 0, hs.hL, by decide, by simp, ?_⟩
 show VC fs ms h.next false _ _ _ _
 obtain ⟨fr, hA, ⟨v, hB, hr⟩, hC, hL, nx⟩ := hs
 have h1A : (h2.set (h.next + 3) (.loop 3 none (entE h.next) [7] L_tape_entry_0a L_tape_entry_0b)).get h.next = some (.cells (tcm x).cells true 0) := (get_set_ne (by omega)).trans hA
 have h1B : (h2.set (h.next + 3) (.loop 3 none (entE h.next) [7] L_tape_entry_0a L_tape_entry_0b)).get (h.next + 1) = some (.cells [v] true 0) := (get_set_ne (by omega)).trans hB
 have h1r : BR (h.next + 4) (h2.set (h.next + 3) (.loop 3 none (entE h.next) [7] L_tape_entry_0a L_tape_entry_0b)) v (puts (nums x)) := hr.keep ((Fr.refl h2 [h.next + 3]).set (by simp)) (by simp)
 have h1f : Fr h (h2.set (h.next + 3) (.loop 3 none (entE h.next) [7] L_tape_entry_0a L_tape_entry_0b)) [] := fr.setn (by omega)
 have h1n : h.next + 4 ≤ (h2.set (h.next + 3) (.loop 3 none (entE h.next) [7] L_tape_entry_0a L_tape_entry_0b)).next := nx
 show VC fs ms h.next false _ (ek 3 _) (h2.set (h.next + 3) (.loop 3 none (entE h.next) [7] L_tape_entry_0a L_tape_entry_0b)) _
 generalize (h2.set (h.next + 3) (.loop 3 none (entE h.next) [7] L_tape_entry_0a L_tape_entry_0b)) = H at *
 have hvl : ∀ d, d < h.next + 4 → ¬ OwnB v d := fun d hd hw => by have := (h1r.own hw).1; omega
 refine vc_slots 3 [(1, .ptr h.next 0), (2, .ptr (h.next + 1) 0)] ⟨rfl, rfl, trivial⟩ ?_
 refine vc_seq true ?_
 set_option smartUnfolding false in conv => whnf
 refine ⟨v, ld1 h1B rfl, ?_⟩
 set_option smartUnfolding false in conv => whnf
 refine ⟨.fz x.kk (tops x.ops), ld1 h1A rfl, ?_⟩
 set_option smartUnfolding false in conv => whnf
 rw [len_tops]
 have hol := hg.hl
 have hpl : (puts (nums x)).length ≤ 9 * 5 := puts_len (nums x)
 refine put_g (l := [(x.ops.length : Int)]) (c := H.next) (by intro n hn; simp at hn; subst hn; exact badN_len (by omega)) (by simp; omega) h1r.new get_new_same fun v' h3 hr' hn' hk' => ?_
 have hn2 : H.next + 1 ≤ h3.next := hn'
 replace hr' : BR (H.next + 1) h3 v' _ := hr'
 have hk2 : ∀ d, d < H.next → ¬ OwnB v d → h3.get d = H.get d := fun d hd hw => (hk' d (by show d < H.next + 1; omega) (by omega) hw).trans (get_new_ne hd)
 set_option smartUnfolding false in conv => whnf
 obtain ⟨hv1, hv2⟩ := hr'.cell
 refine eff_o (sto_o ((hk2 _ (by omega) (hvl _ (by omega))).trans h1B) hv1 (Nat.le_refl _) hv2) fun h4 e4 => ?_
 have hsp : Heap.splice [v] 0 v'.cells = [v'] := by rw [hr'.cells]; rfl
 rw [hsp] at e4
 have h4s : EntT h x (puts (nums x) ++ puts [(x.ops.length : Int)] ++ opsB (x.ops.take 0)) h4 := by
  rw [e4]
  refine ⟨(h1f.app (by omega) (fun c hc => hk2 c (by omega) (hvl _ (by omega)))).setn (by omega), (get_set_ne (by omega)).trans ((hk2 _ (by omega) (hvl _ (by omega))).trans h1A), ⟨v', get_set_same, ?_⟩, ?_⟩
  ·rw [List.take_zero]
   simp only [opsB, List.flatMap_nil, List.append_nil]
   exact (hr'.low (by omega)).keep ((Fr.refl h3 [h.next + 1]).set (by simp)) (by simp)
  ·show h.next + 4 ≤ h3.next
   omega
 clear e4
 set_option smartUnfolding false in conv => whnf
 refine vc_seqV (vc_seq true ?_)
 set_option smartUnfolding false in conv => whnf
 refine ⟨.fz x.kk (tops x.ops), ld1 h4s.hA rfl, ?_⟩
 set_option smartUnfolding false in conv => whnf
 refine vc_block ?_
 refine ento_l hg (P := puts (nums x) ++ puts [(x.ops.length : Int)]) (by rw [List.length_append]; have := puts_len [(x.ops.length : Int)]; simp only [List.length_cons, List.length_nil] at this; omega) ?_ x.ops.length 0 h4 _ rfl (Nat.zero_le _) h4s ⟨rfl, rfl, ?_, rfl, trivial⟩
 ·intro e' h' hs' h2'
  show VC fs ms h.next false _ _ _ _
  obtain ⟨fr5, hA5, ⟨w, hB5, hr5⟩, nx5⟩ := hs'
  refine vc_slots 3 [(2, .ptr (h.next + 1) 0)] ⟨h2', trivial⟩ (vpC_sound (z := true) ?_)
  set_option smartUnfolding false in conv => whnf
  refine ⟨w, ld1 hB5 rfl, ?_⟩
  set_option smartUnfolding false in conv => whnf
  obtain ⟨hw1, hw2⟩ := hr5.cell
  refine eff_o (sto_o hB5 hw1 (Nat.le_refl _) hw2) fun h6 e6 => ?_
  have hsp2 : Heap.splice [w] 0 w.cells = [w] := by rw [hr5.cells]; rfl
  rw [hsp2] at e6
  set_option smartUnfolding false in conv => whnf
  refine opt_go (v := [w]) (res_cell rfl (by rw [e6]; exact get_set_same) rfl) ?_
  set_option smartUnfolding false in conv => whnf
  refine hQ w h6 ?_ ?_
  ·rw [e6]
   exact (hr5.keep ((Fr.refl h' [h.next + 1]).set (by simp)) (by simp)).low (by omega)
  ·rw [e6]
   exact fr5.setn (by omega)
 ·show some (AV.int .i64 (((tops x.ops).length : Nat) : Int)) = _
  rw [len_tops]
structure EntR (h0 : Heap) (x : TCmd) (L : List Int) (h : Heap) (v : AV) : Prop where
 fr : Fr h0 h []
 hA : h.get h0.next = some (.cells (tcm x).cells true 0)
 hr : BR (h0.next + 1) h v L
 nx : h0.next + 1 ≤ h.next
theorem res_two {e : Env} {h : Heap} {a b : Nat} {v w : AV} (ha : Tr.get e a = some v) (hb : Tr.get e b = some w) : resAllV e h [.tmp a, .tmp b] = some [v, w] := by
 simp only [resAllV, resOfV, ha, hb]
/- Tapes. -/
def errL : List TCmd → Int
 | [] => 0
 | x :: l => if chk x = 0 then errL l else chk x
def bytB (l : List TCmd) : List Int := l.flatMap fun x => puts [((entB x).length : Int)] ++ entB x
def bytR (l : List TCmd) : List Int := if errL l = 0 then bytB l else []
theorem errL_at {l : List TCmd} {j : Nat} (hj : j < l.length) : errL (l.drop j) = if chk l[j] = 0 then errL (l.drop (j + 1)) else chk l[j] := by
 rw [List.drop_eq_getElem_cons hj]
 rfl
theorem bytB_next {l : List TCmd} {j : Nat} (hj : j < l.length) : bytB (l.take (j + 1)) = bytB (l.take j) ++ (puts [((entB l[j]).length : Int)] ++ entB l[j]) := by
 rw [take_next hj, bytB, List.flatMap_append]
 simp [bytB]
theorem bytB_len : ∀ {l : List TCmd}, (∀ x ∈ l, chk x = 0) → (bytB l).length ≤ 1600 * l.length
 | [], _ => by simp [bytB]
 | x :: l, h => by
  have h1 := entB_len (good_of (h x (by simp)))
  have h2 := bytB_len (l := l) (fun o ho => h o (by simp [ho]))
  have h3 := puts_len [((entB x).length : Int)]
  simp only [List.length_cons, List.length_nil] at h3
  simp only [bytB, List.flatMap_cons, List.length_append, List.length_cons] at h2 ⊢
  omega
theorem mem_take_next {α : Type} {l : List α} {j : Nat} (hj : j < l.length) {P : α → Prop} (h : ∀ x ∈ l.take j, P x) (hx : P l[j]) : ∀ x ∈ l.take (j + 1), P x := by
 rw [take_next hj]
 intro x hm
 rcases List.mem_append.1 hm with hm | hm
 ·exact h x hm
 ·simp only [List.mem_singleton] at hm
  subst hm
  exact hx
theorem bytes_l {h0 : Heap} {k : Nat} {l : List TCmd} (hl : l.length ≤ 40) (hops : ∀ x ∈ l, x.ops.length < 2 ^ 62) {B : Nat} {Q : AX → Env → Heap → Prop} (hQ : ∀ e' h' v, errL l = 0 → BR h0.next h' v (bytB l) → Fr h0 h' [] → Tr.get e' 2 = some v → Q (.exit 0) e' h')
  (hE : ∀ e' h', errL l ≠ 0 → Fr h0 h' [] → Tr.get e' 2 = some .nils → Tr.get e' 3 = some (.int .i64 (errL l)) → Q .ret e' h') :
  ∀ (m j : Nat) (h : Heap) (env : Env) (v : AV), l.length - j = m → j ≤ l.length → errL l = errL (l.drop j) → (∀ x ∈ l.take j, chk x = 0) → BR h0.next h v (bytB (l.take j)) → Fr h0 h [] →
   AllAt env [(2, v), (8, .fz k (tcms l)), (9, .int .i64 ((l.length : Nat) : Int)), (10, .int .i64 ((j : Nat) : Int))] →
   VC fs ms B false (.loop L_tape_Bytes_0) env h Q := by
 intro m
 induction m with
 | zero =>
  intro j h env v hm hj he hc hr fr henv
  have hjl : j = l.length := by omega
  refine vc_slots 5 _ henv ?_
  refine vc_loopV (vpC_sound (z := true) ?_)
  set_option smartUnfolding false in conv => whnf
  refine brf (by simp; omega) (fun hc => ?_)
  (try rw [hc])
  set_option smartUnfolding false in conv => whnf
  subst hjl
  rw [List.drop_length] at he
  exact hQ _ _ v he (by simpa using hr) fr rfl
 | succ m ih =>
  intro j h env v hm hj he hcs hr fr henv
  have hlt : j < l.length := by omega
  have hix := idx_tcm (k := k) hlt
  have hox := hops _ (List.getElem_mem hlt)
  have hnx := bytB_next hlt
  have hbl := bytB_len hcs
  rw [List.length_take] at hbl
  have hmt := mem_take_next (P := fun x => chk x = 0) hlt hcs
  rw [errL_at hlt] at he
  generalize hX : l[j] = x at *
  refine vc_slots 5 _ henv ?_
  refine vc_loopV (vpC_sound (z := true) ?_)
  set_option smartUnfolding false in conv => whnf
  refine brt (by simp; omega) (fun hc => ?_)
  (try rw [hc])
  set_option smartUnfolding false in conv => whnf
  refine ⟨_, hix, ?_⟩
  set_option smartUnfolding false in conv => whnf
  refine ⟨tcm x, rfl, ?_⟩
  set_option smartUnfolding false in conv => whnf
  refine eff_o (sto_o get_new_same rfl (Nat.le_refl _) rfl) fun h1 e1 => ?_
  have h1c : h1.get h.next = some (.cells (tcm x).cells true 0) := by rw [e1, get_set_same]; rfl
  have h1r : BR h0.next h1 v (bytB (l.take j)) := by
   rw [e1]
   exact hr.keep (T := []) (((Fr.refl h []).new).setn (Nat.le_refl _)) (by simp)
  have h1f : Fr h0 h1 [] := by rw [e1]; exact fr.new.setn fr.next
  have h1n : h1.next = h.next + 1 := by rw [e1]; rfl
  have hvo : ∀ d, OwnB v d → d < h.next := fun d hw => (hr.own hw).2
  clear e1
  set_option smartUnfolding false in conv => whnf
  have hldx : rV (.loadN 6) [.ptr h.next 0] h1 = some (tcm x) := ldN h1c (Nat.le_refl _)
  refine ⟨tcm x, hldx, ?_⟩
  set_option smartUnfolding false in conv => whnf
  refine vd_pure (chk_c x hox) ?_
  set_option smartUnfolding false in conv => whnf
  refine br (fun hc => ?_) (fun hc => ?_) <;> (try rw [hc]) <;> (set_option smartUnfolding false in conv => whnf)
  ·have hne : chk x ≠ 0 := by simpa using hc
   rw [if_neg hne] at he
   exact hE _ _ (by rw [he]; exact hne) h1f rfl (by rw [he]; rfl)
  ·have heq : chk x = 0 := by simpa using hc
   have hg := good_of heq
   rw [if_pos heq] at he
   refine ⟨tcm x, hldx, ?_⟩
   set_option smartUnfolding false in conv => whnf
   refine ent_c hg fun w h2 hr2 fr2 => ?_
   have hrl := hr2.len
   rw [len_bys] at hrl
   set_option smartUnfolding false in conv => whnf
   rw [hrl]
   set_option smartUnfolding false in conv => whnf
   have hel := entB_len hg
   have h2r : BR h0.next h2 v (bytB (l.take j)) := h1r.keep fr2 (by simp)
   refine put_g (l := [((entB x).length : Int)]) (c := h2.next) (by intro n hn; simp at hn; subst hn; exact badN_len (by omega)) (by simp; omega) h2r.new get_new_same fun v' h3 hr3 hn3 hk3 => ?_
   have hn3' : h2.next + 1 ≤ h3.next := hn3
   have hn2' := fr2.next
   replace hr3 : BR (h2.next + 1) h3 v' _ := hr3
   have hwk : BR h1.next h3 w (entB x) := by
    rcases hr2 with hw | ⟨hne0, b, g1, g2, g3, g4⟩
    ·exact .inl hw
    ·exact .inr ⟨hne0, b, g1, by omega, g3, by rw [hk3 b (by show b < h2.next + 1; omega) (by omega) (fun hw => by have := hvo b hw; omega), get_new_ne g2]; exact g4⟩
   have hk4 : ∀ d, d < h0.next → h3.get d = h2.get d := fun d hd => by
    have := h1f.next
    rw [hk3 d (by show d < h2.next + 1; omega) (by omega) (fun hw => by have := (h2r.own hw).1; omega), get_new_ne (by omega)]
   have h3f : Fr h0 h3 [] := (h1f.trans ⟨fr2.next, fun c hc hn => fr2.keep c hc hn⟩).app (by omega) hk4
   set_option smartUnfolding false in conv => whnf
   have hpp := puts_len [((entB x).length : Int)]
   simp only [List.length_cons, List.length_nil] at hpp
   obtain ⟨v2, g2, ha, hr5, hn5, hk5⟩ := BR.row hr3 hn3' hwk.src (by rw [List.length_append]; omega)
   refine ⟨_, _, ha, ?_⟩
   set_option smartUnfolding false in conv => whnf
   have h1f' := h1f.next
   refine ih (j + 1) g2 _ v2 (by omega) (by omega) he (hmt heq) ?_ (h3f.app (by omega) (fun c hc => hk5 c (by omega))) ⟨rfl, rfl, rfl, inc_slot (by omega), trivial⟩
   rw [hnx, ← List.append_assoc]
   exact hr5.low (by omega)
theorem bytes_c (k : Nat) (l : List TCmd) (hl : l.length ≤ 40) (hops : ∀ x ∈ l, x.ops.length < 2 ^ 62) {h : Heap} {Q : AV → Heap → Prop} (hQ : ∀ v h', BR h.next h' v (bytR l) → Fr h h' [] → Q (.tup [v, .int .i64 (errL l)]) h') :
  VD fs ms f_tape_Bytes [.fz k (tcms l)] h Q := by
 refine vd_begin (af := C_tape_Bytes) rfl (yB rfl) ?_
 set_option smartUnfolding false in conv => whnf
 refine vc_seq true ?_
 set_option smartUnfolding false in conv => whnf
 refine vc_seqV (vc_seq true ?_)
 set_option smartUnfolding false in conv => whnf
 rw [len_tcms]
 refine vc_block ?_
 refine bytes_l (h0 := h) (k := k) hl hops ?_ ?_ l.length 0 h _ .nils rfl (Nat.zero_le _) rfl (by simp) (.inl ⟨rfl, rfl⟩) (Fr.refl _ _) ⟨rfl, rfl, rfl, rfl, trivial⟩
 ·intro e' h' v he hr fr h2
  show VC fs ms h.next false _ _ _ _
  refine vc_slots 3 [(2, v)] ⟨h2, trivial⟩ (vpC_sound (z := true) ?_)
  set_option smartUnfolding false in conv => whnf
  have := hQ v h' (by rw [bytR, if_pos he]; exact hr) fr
  rw [he] at this
  exact this
 ·intro e' h' he fr h2 h3
  set_option smartUnfolding false in conv => whnf
  refine opt_go (v := [.nils, .int .i64 (errL l)]) (res_two h2 h3) ?_
  exact hQ .nils h' (by rw [bytR, if_neg he]; exact .inl ⟨rfl, rfl⟩) fr
def bytS (L : List Int) : List UInt8 := L.map fun n => UInt8.ofNat n.toNat
theorem strBytes_bys : ∀ L : List Int, strBytes (bys L) = some (bytS L)
 | [] => rfl
 | n :: L => by
  have := strBytes_bys L
  simp only [bys, List.map_cons, strBytes, bytS] at this ⊢
  rw [this]
  rfl
theorem BR.str {lo : Nat} {h : Heap} {v : AV} {M : List Int} (hr : BR lo h v M) : rV .toStr [v] h = some (.str (bytS M)) := by
 rcases hr with ⟨h1, rfl⟩ | ⟨hne, b, h1, h2, rfl, h4⟩
 ·have : M = [] := by cases M with | nil => rfl | cons x r => simp [bys] at h1
  subst this
  rfl
 ·rw [flat_bys] at h4
  have hl : h.loadN b 0 (bys M).length = some (bys M) := by
   rw [loadN_some h4 (by omega)]
   simp
  show rI .toStr [.sl b 0 (bys M).length (bys M).length true] h = _
  simp only [rI, hl, strBytes_bys, Option.map_some]
end Ir
end Go.Proofs.YtmnolnoeibhjgaaGreat
