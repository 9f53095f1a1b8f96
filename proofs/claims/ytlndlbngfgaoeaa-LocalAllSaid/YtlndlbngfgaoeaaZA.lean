/-
  Local: a partition that is looked at; its slack. Local: the test of a partition. Local: what Test answers.
-/
import Derived.Test.YtlndlbngfgaoeaaVSup
import Derived.Test.YtlndlbngfgaoeaaVDel
import Derived.Test.YtlndlbngfgaoeaaVDem
set_option maxRecDepth 100000
set_option linter.unusedSimpArgs false
set_option linter.unusedVariables false
namespace Go.Proofs.Ytlndlbngfgaoeaa
open Go Ads
namespace Ir

def lk (x : Pt) (k : Nat) (l : List Pt) (a : Int) (m : List Int) : AV := .agg [.int .i64 x.per, .int .i64 x.bud, .fz x.k (tks x.ts), .fz k (pts l), .int .i64 a, .fz 2 (ints m)]
theorem cl_lk (x : Pt) (k : Nat) (l : List Pt) (a : Int) (m : List Int) : (lk x k l a m).cl = true := by simp [lk, AV.cl, clL, cl_tks, cl_pts, cl_ints]
def lk0 : AV := .agg [.int .i64 0, .int .i64 0, .nils, .nils, .int .i64 0, .nils]

theorem lsum_c (k : Nat) (l : List Int) (hl : l.length < 2 ^ 62) : PC fs ms f_local_sum [.fz k (ints l)] (.int .i64 (sumW l)) := by
 refine pc_of (by simp [clL, AV.cl, cl_ints]) rfl ?_
 refine vd_start (af := C_local_sum) false rfl (Nat.le_of_ble_eq_true rfl) ?_
 generalize hQ : (fun (v : AV) (_ : Heap) => v = .int .i64 (sumW l)) = Q
 conv => whnf
 refine vc_to0 5 [(2, .int .i64 (sumW (l.take 0))), (5, .fz k (ints l)), (6, .int .i64 (ints l).length), (7, .int .i64 ((0 : Nat) : Int))] (by repeat' (first | exact trivial | refine renAt_sl rfl (by omega) ?_ | refine renAt_ptr rfl (by omega) ?_ | refine renAt_yield rfl (by omega) ?_ | refine renAt_cl rfl (by first | rfl | simp [clL, AV.cl, cl_ints]) ?_ | refine renAt_cl (inc_slot (by omega)) rfl ?_)) ?_
 refine for_row 5 l.length (fun _ => True) (fun j => [(2, .int .i64 (sumW (l.take j))), (5, .fz k (ints l)), (6, .int .i64 (ints l).length), (7, .int .i64 (j : Nat))]) ?_ ?_ trivial
 ·intro j hj _
  conv => whnf
  refine br (fun hc => ?_) (fun hc => ?_) <;> (try rw [hc]) <;> (conv => whnf)
  ·refine ⟨_, idx_int hj, ?_⟩
   conv => whnf
   refine ⟨trivial, ⟨_, congrArg (fun n => some (AV.int .i64 n)) ?_, .cl rfl⟩, ⟨_, rfl, .cl (by simp [AV.cl, cl_ints])⟩, ⟨_, rfl, .cl rfl⟩, ⟨_, inc_slot (by omega), .cl rfl⟩, trivial⟩
   rw [take_next hj]
   simp only [sumW, List.foldl_append]
   rfl
  ·exfalso
   have := of_decide_eq_false hc
   simp only [len_ints] at this
   omega
 ·intro _
  conv => whnf
  refine br (fun hc => ?_) (fun hc => ?_) <;> (try rw [hc]) <;> (conv => whnf)
  ·exfalso
   have := of_decide_eq_true hc
   simp only [len_ints] at this
   omega
  ·subst hQ
   rw [List.take_length]

theorem lof_bad (k : Nat) (l : List Pt) (a : Int) (hs : Small l) (h : delCheck l = 2) : PC fs ms f_local_of [.fz k (pts l), .int .i64 a] (.tup [lk0, .int .i64 2]) := by
 refine pc_of (by simp [clL, AV.cl, cl_pts]) rfl ?_
 refine vd_start (af := C_local_of) false rfl (Nat.le_of_ble_eq_true rfl) ?_
 generalize hQ : (fun (v : AV) (_ : Heap) => v = .tup [lk0, .int .i64 2]) = Q
 conv => whnf
 refine vd_pure (more_bad hs h) ?_
 conv => whnf
 subst hQ
 rfl
theorem lof_out (k : Nat) (l : List Pt) (a : Int) (hs : Small l) (h : delCheck l = 0) (ha : a < 0 ∨ l.length ≤ a) : PC fs ms f_local_of [.fz k (pts l), .int .i64 a] (.tup [lk0, .int .i64 9]) := by
 refine pc_of (by simp [clL, AV.cl, cl_pts]) rfl ?_
 refine vd_start (af := C_local_of) false rfl (Nat.le_of_ble_eq_true rfl) ?_
 generalize hQ : (fun (v : AV) (_ : Heap) => v = .tup [lk0, .int .i64 9]) = Q
 conv => whnf
 refine vd_pure (more_out hs h ha) ?_
 conv => whnf
 subst hQ
 rfl
theorem lof_ok (k : Nat) (l : List Pt) (i : Nat) (hs : Small l) (h : delCheck l = 0) (hi : i < l.length) : PC fs ms f_local_of [.fz k (pts l), .int .i64 (i : Nat)] (.tup [lk l[i] k l (i : Nat) (moreL l i), .int .i64 0]) := by
 refine pc_of (by simp [clL, AV.cl, cl_pts]) (by simp [AV.cl, clL, cl_lk]) ?_
 refine vd_start (af := C_local_of) false rfl (Nat.le_of_ble_eq_true rfl) ?_
 generalize hQ : (fun (v : AV) (_ : Heap) => v = .tup [lk l[i] k l (i : Nat) (moreL l i), .int .i64 0]) = Q
 have hm := more_ok (k := k) hs h hi
 have hix := idx_pt (k := k) hi
 generalize moreL l i = M at *
 generalize l[i] = x at *
 conv => whnf
 refine vd_pure (hm) ?_
 conv => whnf
 refine ⟨_, hix, ?_⟩
 conv => whnf
 subst hQ
 rfl

def asksI (x : Pt) (m : List Int) (n : Int) : Int := (dOf x.ts m n).1
def slackI (x : Pt) (l : List Pt) (a : Int) (m : List Int) (n : Int) : Int := sumW [(supS x.per x.bud n).1, IntKind.i64.wrap (0 - asksI x m n), IntKind.i64.wrap (0 - (dOf9 l a n).1)]

theorem asks_c (x : Pt) (k : Nat) (l : List Pt) (a : Int) (m : List Int) (n : Int) (hx : x.ts.length ≤ 17592186044416) (hm : m.length < 2 ^ 62) : PC fs ms f_local_look_asks [lk x k l a m, .int .i64 n] (.int .i64 (asksI x m n)) := by
 refine pc_of (by simp [clL, cl_lk]; rfl) rfl ?_
 refine vd_start (af := C_local_look_asks) false rfl (Nat.le_of_ble_eq_true rfl) ?_
 generalize hQ : (fun (v : AV) (_ : Heap) => v = .int .i64 (asksI x m n)) = Q
 conv => whnf
 refine vd_pure (dof_c x.k 2 x.ts m n (by omega) hm) ?_
 conv => whnf
 subst hQ
 rfl
theorem slack_c (x : Pt) (k : Nat) (l : List Pt) (a : Int) (m : List Int) (n : Int) (hs : Small l) (hx : x.ts.length ≤ 17592186044416) (hm : m.length < 2 ^ 62) : PC fs ms f_local_look_slack [lk x k l a m, .int .i64 n] (.int .i64 (slackI x l a m n)) := by
 refine pc_of (by simp [clL, cl_lk]; rfl) rfl ?_
 refine vd_start (af := C_local_look_slack) false rfl (Nat.le_of_ble_eq_true rfl) ?_
 generalize hQ : (fun (v : AV) (_ : Heap) => v = .int .i64 (slackI x l a m n)) = Q
 conv => whnf
 refine vd_pure (supply_c x.per x.bud n) ?_
 conv => whnf
 refine vd_pure (dOf9_c k l a n hs) ?_
 conv => whnf
 refine vd_pure (asks_c x k l a m n hx hm) ?_
 conv => whnf
 refine vd_view (lsum_c 2 [(supS x.per x.bud n).1, IntKind.i64.wrap (0 - asksI x m n), IntKind.i64.wrap (0 - (dOf9 l a n).1)] (by simp)) rfl (.cons (.row (s := 1) trivial rfl (by rfl) (size_ints _) (by simp [ints]) (Nat.le_refl _) (by omega) (fun _ => rfl) (fun _ => rfl) (cl_ints _)) .nil) ?_
 conv => whnf
 subst hQ
 rfl

def slkS (l : List Pt) (a n : Int) : Int × Int := if delCheck l = 2 then (0, 2) else if a < 0 then (0, 9) else match l[a.toNat]? with
 | none => (0, 9)
 | some x => if n < 0 ∨ n > 1048576 then (0, 2) else (slackI x l a (moreL l a.toNat) n, 0)
theorem moreL_len {l : List Pt} {i : Nat} (hi : i < l.length) : (moreL l i).length = l[i].ts.length := by
 rw [moreL, List.getElem?_eq_getElem hi]
 simp
theorem lslack_c (k : Nat) (l : List Pt) (a n : Int) (hs : Small l) : PC fs ms f_local_Slack [.fz k (pts l), .int .i64 a, .int .i64 n] (pairI (slkS l a n)) := by
 refine pc_of (by simp [clL, AV.cl, cl_pts]) rfl ?_
 refine vd_start (af := C_local_Slack) false rfl (Nat.le_of_ble_eq_true rfl) ?_
 generalize hQ : (fun (v : AV) (_ : Heap) => v = pairI (slkS l a n)) = Q
 conv => whnf
 rcases delCheck_or l with h | h
 ·by_cases ha : a < 0 ∨ l.length ≤ a
  ·refine vd_pure (lof_out k l a hs h ha) ?_
   conv => whnf
   subst hQ
   rw [slkS, if_neg (by omega)]
   by_cases h0 : a < 0
   ·rw [if_pos h0]; rfl
   ·rw [if_neg h0, List.getElem?_eq_none (by omega)]; rfl
  ·obtain ⟨i, rfl⟩ := Int.eq_ofNat_of_zero_le (show 0 ≤ a by omega)
   have hi : i < l.length := by omega
   have hd : slkS l (i : Nat) n = if n < 0 ∨ n > 1048576 then (0, 2) else (slackI l[i] l (i : Nat) (moreL l i) n, 0) := by
    rw [slkS, if_neg (by omega), if_neg (by omega), show ((i : Int)).toNat = i from rfl, List.getElem?_eq_getElem hi]
   have hts := hs.2 _ (List.getElem_mem hi)
   have hml := moreL_len hi
   refine vd_pure (lof_ok k l i hs h hi) ?_
   conv => whnf
   generalize moreL l i = M at *
   generalize l[i] = x at *
   by_cases h0 : n < 0
   ·refine brt (decide_eq_true h0) (fun hc => ?_)
    (try rw [hc])
    conv => whnf
    subst hQ
    rw [hd, if_pos (.inl h0)]
    rfl
   ·refine brf (decide_eq_false h0) (fun hc => ?_)
    (try rw [hc])
    conv => whnf
    by_cases h1 : n > 1048576
    ·refine brt (decide_eq_true h1) (fun hc => ?_)
     (try rw [hc])
     conv => whnf
     subst hQ
     rw [hd, if_pos (.inr h1)]
     rfl
    ·refine brf (decide_eq_false h1) (fun hc => ?_)
     (try rw [hc])
     conv => whnf
     refine vd_pure (slack_c x k l (i : Nat) M n hs hts (by omega)) ?_
     conv => whnf
     subst hQ
     rw [hd, if_neg (by omega)]
     rfl
 ·refine vd_pure (lof_bad k l a hs h) ?_
  conv => whnf
  subst hQ
  rw [slkS, if_pos h]
  rfl
def firstBad (p : Nat → Bool) : Nat → Nat → Option Nat
 | _, 0 => none
 | t, n + 1 => if p t = true then some t else firstBad p (t + 1) n
theorem firstBad_none {p : Nat → Bool} : ∀ {n t : Nat}, firstBad p t n = none → ∀ j, j < n → p (t + j) = false
 | 0, _, _, j, hj => by omega
 | n + 1, t, h, j, hj => by
  rw [firstBad] at h
  split at h
  ·cases h
  ·rename_i hp
   cases j with
   | zero => simpa using hp
   | succ j => rw [show t + (j + 1) = t + 1 + j by omega]; exact firstBad_none h j (by omega)
theorem firstBad_some {p : Nat → Bool} : ∀ {n t u : Nat}, firstBad p t n = some u → t ≤ u ∧ u < t + n ∧ p u = true ∧ ∀ v, t ≤ v → v < u → p v = false
 | 0, _, _, h => by simp [firstBad] at h
 | n + 1, t, u, h => by
  rw [firstBad] at h
  split at h
  ·rename_i hp
   cases h
   exact ⟨Nat.le_refl _, by omega, hp, fun v h1 h2 => by omega⟩
  ·rename_i hp
   obtain ⟨h1, h2, h3, h4⟩ := firstBad_some h
   refine ⟨by omega, by omega, h3, fun v h5 h6 => ?_⟩
   by_cases hv : v = t
   ·subst hv; simpa using hp
   ·exact h4 v (by omega) h6

def badB (x : Pt) (l : List Pt) (a : Int) (m : List Int) (t : Nat) : Bool := decide (asksI x m (t : Nat) > 0) && decide (slackI x l a m (t : Nat) < 0)

def lA : AC := L_local_Test_1a
def lB : AC := L_local_Test_1b
def lE (F : AV) : Env := ek 7 [(4, .ptr 0 0), (5, .ptr 1 0), (89, F)]
def lH (F : AV) (a e : Int) (st : Nat) (pend : Option AX) : Heap := ⟨3, .node (.node .nil (some (.cells [.int .i64 e] true 0)) .nil) (some (.cells [.int .i64 a] true 0)) (.node .nil (some (.loop st pend (lE F) [90, 91] lA lB)) .nil)⟩
theorem lH_three (F : AV) (a e : Int) (st : Nat) (pend : Option AX) : lH F a e st pend = hk 3 [(0, .cells [.int .i64 a] true 0), (1, .cells [.int .i64 e] true 0), (2, .loop st pend (lE F) [90, 91] lA lB)] := hk_three _ _ _

theorem slacks_c (x : Pt) (k : Nat) (l : List Pt) (a : Int) (m : List Int) (n : Int) : PC fs ms f_local_look_slacks [lk x k l a m, .int .i64 n] (.func (.func f_local_look_slacks_1) [] [.fp [.int .i64 n] 0, .fp (lk x k l a m).cells 0]) := by
 refine ⟨by simp [clL, cl_lk]; rfl, by simp [AV.cl, clL, cells_cl (cl_lk x k l a m)], ?_⟩
 refine vd_start (af := C_local_look_slacks) false rfl (Nat.le_of_ble_eq_true rfl) ?_
 generalize hQ : (fun (u : AV) (h : Heap) => Frz (fun _ => True) h u (.func (.func f_local_look_slacks_1) [] [.fp [.int .i64 n] 0, .fp (lk x k l a m).cells 0])) = Q
 conv => whnf
 subst hQ
 exact .func' .nil (.cons (.ptr' trivial rfl (.clean (l := [.int .i64 n]) rfl)) (.cons (.ptr' trivial rfl (.clean (l := (lk x k l a m).cells) (cells_cl (cl_lk x k l a m)))) .nil))

set_option maxHeartbeats 4000000 in
theorem liter (x : Pt) (k : Nat) (l : List Pt) (a : Int) (m : List Int) (fin : Nat) (hfin : fin < 1048576) {F : AV} (hF : F.cl = true) (hs : Small l) (hx : x.ts.length ≤ 17592186044416) (hm : m.length < 2 ^ 62) :
  VD fs ms f_local_look_slacks_1 [.yield 2, .fp [.int .i64 (fin : Nat)] 0, .fp (lk x k l a m).cells 0] (lH F 0 0 0 none) (fun _ h2 => h2 = match firstBad (badB x l a m) 1 fin with | none => lH F 0 0 0 none | some t => lH F (t : Nat) 120 2 (some .ret)) := by
 refine vd_start (af := C_local_look_slacks_1) false rfl (Nat.le_of_ble_eq_true rfl) ?_
 generalize hQ : (fun (v : AV) (h2 : Heap) => h2 = match firstBad (badB x l a m) 1 fin with | none => lH F 0 0 0 none | some t => lH F (t : Nat) 120 2 (some .ret)) = Q
 show startF _ _ fun e => vpC fs ms 3 false false _ e ⟨3, .node (.node .nil (some (.cells [.int .i64 0] true 0)) .nil) (some (.cells [.int .i64 0] true 0)) (.node .nil (some (.loop 0 none (lE F) [90, 91] lA lB)) .nil)⟩ _
 have hcl : clL (lk x k l a m).cells = true := cells_cl (cl_lk x k l a m)
 have hcells : (lk x k l a m) = .agg (lk x k l a m).cells := rfl
 have hl6 : (lk x k l a m).cells.length = 6 := rfl
 have hask := fun n => asks_c x k l a m n hx hm
 have hslk := fun n => slack_c x k l a m n hs hx hm
 have hpf : ∀ (t : Nat), badB x l a m t = (decide (asksI x m (t : Nat) > 0) && decide (slackI x l a m (t : Nat) < 0)) := fun t => rfl
 conv => whnf
 have htail : ∀ {e1 : Env} {E : List (Nat × AV)}, RenAt id 3 e1 E → GC 3 id e1 (lH F 0 0 0 none) (ek 5 E) (lH F 0 0 0 none) := fun hr => gc_lit (lH_three _ _ _ _ _) id hr ⟨by omega, ⟨_, rfl, renB_cl rfl rfl⟩, by omega, ⟨_, rfl, renB_cl rfl rfl⟩, by omega, ⟨_, rfl, renB_loop (by simp; exact ⟨.ptr (by omega), .ptr (by omega), .cl hF⟩)⟩, trivial⟩ (by intro b c hb hc h; exact h) (fun b hb => rfl) (Nat.le_refl _)
 refine vc_gc (p := id) (htail (E := [(0, .yield 2), (1, .fp [.int .i64 (fin : Nat)] 0), (2, .fp (lk x k l a m).cells 0), (4, .int .i64 ((0 + 1 : Nat) : Int))]) (by repeat' (first | exact trivial | refine renAt_sl rfl (by omega) ?_ | refine renAt_ptr rfl (by omega) ?_ | refine renAt_yield rfl (by omega) ?_ | refine renAt_cl rfl (by first | rfl | simp [clL, AV.cl, cl_ints, hcl]) ?_ | refine renAt_cl (inc_slot (by omega)) rfl ?_))) ?_
 have round : ∀ (K : AX → Env → Heap → Prop) j, j < fin → badB x l a m (j + 1) = false → vpC fs ms 3 false false L_local_look_slacks_1_0 (ek 5 [(0, .yield 2), (1, .fp [.int .i64 (fin : Nat)] 0), (2, .fp (lk x k l a m).cells 0), (4, .int .i64 ((j + 1 : Nat) : Int))]) (lH F 0 0 0 none) (fun x1 e1 h1 => match x1 with | .normal => True ∧ ∃ p, GC 3 p e1 h1 (ek 5 [(0, .yield 2), (1, .fp [.int .i64 (fin : Nat)] 0), (2, .fp (lk x k l a m).cells 0), (4, .int .i64 ((j + 1 + 1 : Nat) : Int))]) (lH F 0 0 0 none) | x1 => K x1 e1 h1) := by
  intro K j hj hb
  rw [hpf] at hb
  have h1 := hask ((j + 1 : Nat) : Int)
  have h2 := hslk ((j + 1 : Nat) : Int)
  generalize asksI x m ((j + 1 : Nat) : Int) = A at *
  generalize slackI x l a m ((j + 1 : Nat) : Int) = S at *
  show vpC fs ms 3 false false _ _ ⟨3, .node (.node .nil (some (.cells [.int .i64 0] true 0)) .nil) (some (.cells [.int .i64 0] true 0)) (.node .nil (some (.loop 0 none (lE F) [90, 91] lA lB)) .nil)⟩ _
  conv => whnf
  refine brt (by simp; omega) (fun hc => ?_)
  (try rw [hc])
  conv => whnf
  refine vd_pure h1 ?_
  conv => whnf
  by_cases ha : A > 0
  ·have hn : ¬ S < 0 := by
    rw [decide_eq_true ha, Bool.true_and] at hb
    exact of_decide_eq_false hb
   refine brt (decide_eq_true ha) (fun hc => ?_)
   (try rw [hc])
   conv => whnf
   refine vd_pure h2 ?_
   conv => whnf
   refine vd_yield rfl rfl ?_
   refine vpC_sound (z := false) ?_
   conv => whnf
   refine ⟨rfl, none, rfl, ?_⟩
   refine vpC_sound (z := false) ?_
   conv => whnf
   refine brf (decide_eq_false hn) (fun hc => ?_)
   (try rw [hc])
   conv => whnf
   refine ⟨by simp, ⟨1, none, rfl⟩, ?_⟩
   conv => whnf
   exact ⟨trivial, id, htail (by repeat' (first | exact trivial | refine renAt_sl rfl (by omega) ?_ | refine renAt_ptr rfl (by omega) ?_ | refine renAt_yield rfl (by omega) ?_ | refine renAt_cl rfl (by first | rfl | simp [clL, AV.cl, cl_ints, hcl]) ?_ | refine renAt_cl (inc_slot (by omega)) rfl ?_))⟩
  ·refine brf (decide_eq_false ha) (fun hc => ?_)
   (try rw [hc])
   conv => whnf
   exact ⟨trivial, id, htail (by repeat' (first | exact trivial | refine renAt_sl rfl (by omega) ?_ | refine renAt_ptr rfl (by omega) ?_ | refine renAt_yield rfl (by omega) ?_ | refine renAt_cl rfl (by first | rfl | simp [clL, AV.cl, cl_ints, hcl]) ?_ | refine renAt_cl (inc_slot (by omega)) rfl ?_))⟩
 cases hfb : firstBad (badB x l a m) 1 fin with
 | none =>
  rw [hfb] at hQ
  have hno := firstBad_none hfb
  refine for_rowH 3 5 fin (fun _ => True) (fun j => [(0, .yield 2), (1, .fp [.int .i64 (fin : Nat)] 0), (2, .fp (lk x k l a m).cells 0), (4, .int .i64 ((j + 1 : Nat) : Int))]) (fun _ => lH F 0 0 0 none) (fun j hj _ => round _ j hj (by have := hno j hj; rwa [Nat.add_comm] at this)) ?_ trivial
  intro _
  conv => whnf
  refine brf (by simp; omega) (fun hc => ?_)
  (try rw [hc])
  conv => whnf
  subst hQ
  rfl
 | some u =>
  rw [hfb] at hQ
  obtain ⟨u1, u2, u3, u4⟩ := firstBad_some hfb
  refine for_rowH 3 5 (u - 1) (fun _ => True) (fun j => [(0, .yield 2), (1, .fp [.int .i64 (fin : Nat)] 0), (2, .fp (lk x k l a m).cells 0), (4, .int .i64 ((j + 1 : Nat) : Int))]) (fun _ => lH F 0 0 0 none) (fun j hj _ => round _ j (by omega) (u4 (j + 1) (by omega) (by omega))) ?_ trivial
  intro _
  rw [show u - 1 + 1 = u by omega]
  rw [hpf, Bool.and_eq_true] at u3
  have h1 := hask (u : Nat)
  have h2 := hslk (u : Nat)
  generalize asksI x m (u : Nat) = A at *
  generalize slackI x l a m (u : Nat) = S at *
  show vpC fs ms 3 false false _ _ ⟨3, .node (.node .nil (some (.cells [.int .i64 0] true 0)) .nil) (some (.cells [.int .i64 0] true 0)) (.node .nil (some (.loop 0 none (lE F) [90, 91] lA lB)) .nil)⟩ _
  conv => whnf
  refine brt (by simp; omega) (fun hc => ?_)
  (try rw [hc])
  conv => whnf
  refine vd_pure h1 ?_
  conv => whnf
  refine brt (u3.1) (fun hc => ?_)
  (try rw [hc])
  conv => whnf
  refine vd_pure h2 ?_
  conv => whnf
  refine vd_yield rfl rfl ?_
  refine vpC_sound (z := false) ?_
  conv => whnf
  refine ⟨rfl, none, rfl, ?_⟩
  refine vpC_sound (z := false) ?_
  conv => whnf
  refine brt (u3.2) (fun hc => ?_)
  (try rw [hc])
  conv => whnf
  refine ⟨by simp, ⟨1, none, rfl⟩, ?_⟩
  conv => whnf
  subst hQ
  rfl
def farN (ts : List Tk) : Nat → Int
 | 0 => 0
 | j + 1 => match ts[j]? with
  | some t => mx (farN ts j) t.d
  | none => farN ts j
theorem farN_next {ts : List Tk} {j : Nat} (h : j < ts.length) : farN ts (j + 1) = mx (farN ts j) ts[j].d := by
 rw [farN, List.getElem?_eq_getElem h]
theorem farN_in {ts : List Tk} (h : ∀ t, t ∈ ts → 1 ≤ t.d ∧ t.d ≤ 64) : ∀ j, j ≤ ts.length → 0 ≤ farN ts j ∧ farN ts j ≤ 64 ∧ ∀ (i : Nat) (hi : i < ts.length), i < j → ts[i].d ≤ farN ts j
 | 0, _ => ⟨by simp [farN], by simp [farN], fun i _ h => by omega⟩
 | j + 1, hj => by
  have hlt : j < ts.length := by omega
  obtain ⟨h1, h2, h3⟩ := farN_in h j (by omega)
  have h4 := h _ (List.getElem_mem hlt)
  rw [farN_next hlt, mx_max]
  refine ⟨by omega, by omega, fun i hi hij => ?_⟩
  by_cases hij2 : i = j
  ·subst hij2; omega
  ·have := h3 i hi (by omega); omega
def endS (x : Pt) (h : Int) : Int := sumW [h, farN x.ts x.ts.length, x.per, x.per]

def testP (x : Pt) (l : List Pt) (a : Int) (m : List Int) : Int × Int :=
 if (hypS x.ts x.per).2 ≠ 0 then (0, (hypS x.ts x.per).2)
 else if (dUse x.ts m (hypS x.ts x.per).1).1 > IntKind.i64.wrap (IntKind.i64.wrap ((hypS x.ts x.per).1.tdiv x.per) * x.bud) then (0, 120)
 else match firstBad (badB x l a m) 1 (endS x (hypS x.ts x.per).1).toNat with
  | some t => ((t : Nat), 120)
  | none => (0, 0)
def testS (l : List Pt) (a : Int) : Int × Int := if delCheck l = 2 then (0, 2) else if a < 0 then (0, 9) else match l[a.toNat]? with
 | none => (0, 9)
 | some x => if x.ts.length = 0 then (0, 0) else testP x l a (moreL l a.toNat)

theorem endS_in {x : Pt} {h : Int} (hh : 0 ≤ h ∧ h ≤ 4096) (hf : 0 ≤ farN x.ts x.ts.length ∧ farN x.ts x.ts.length ≤ 64) (hp : 1 ≤ x.per ∧ x.per ≤ 64) : endS x h = h + farN x.ts x.ts.length + x.per + x.per := by
 simp only [endS, sumW, List.foldl_cons, List.foldl_nil]
 rw [IntWalk.i64_in (0 + _) (by omega), IntWalk.i64_in (0 + h + _) (by omega), IntWalk.i64_in (0 + h + _ + _) (by omega), IntWalk.i64_in _ (by omega)]
 omega

theorem hyp_in (ts : List Tk) (n : Int) (h : (hypS ts n).2 = 0) : 0 ≤ (hypS ts n).1 ∧ (hypS ts n).1 ≤ 4096 := by
 unfold hypS at h ⊢
 split
 ·split
  ·rename_i h1 h2
   constructor
   ·show (0 : Int) ≤ ((hypN ts n.toNat : Nat) : Int); omega
   ·show ((hypN ts n.toNat : Nat) : Int) ≤ 4096; omega
  ·simp
 ·simp

set_option maxHeartbeats 1000000 in
theorem ltest_c (k : Nat) (l : List Pt) (a : Int) (hs : Small l) : PC fs ms f_local_Test [.fz k (pts l), .int .i64 a] (pairI (testS l a)) := by
 refine pc_of (by simp [clL, AV.cl, cl_pts]) rfl ?_
 refine vd_start (af := C_local_Test) false rfl (Nat.le_of_ble_eq_true rfl) ?_
 generalize hQ : (fun (v : AV) (_ : Heap) => v = pairI (testS l a)) = Q
 conv => whnf
 rcases delCheck_or l with h | h
 ·by_cases ha : a < 0 ∨ l.length ≤ a
  ·refine vd_pure (lof_out k l a hs h ha) ?_
   conv => whnf
   refine ⟨winOk_of (by (conv => whnf); repeat' (first | exact trivial | (exact ⟨rfl, rfl, .inr ⟨_, _, rfl⟩⟩) | (refine ⟨rfl, rfl, .inl ⟨rfl, fun o ho => ?_⟩⟩; cases ho; first | rfl) | (exact ⟨rfl, .inr ⟨_, _, rfl⟩⟩) | (refine ⟨rfl, .inl ⟨rfl, fun i o hi ho => ?_⟩⟩; cases hi; cases ho; first | rfl) | (refine And.intro (fun hon => (Bool.false_ne_true hon).elim) ?_ <;> conv => whnf) | (refine And.intro (fun _ => ?_) ?_ <;> conv => whnf) | (refine And.intro ?_ ?_ <;> conv => whnf))), ?_⟩
   conv => whnf
   subst hQ
   rw [testS, if_neg (by omega)]
   by_cases h0 : a < 0
   ·rw [if_pos h0]; rfl
   ·rw [if_neg h0, List.getElem?_eq_none (by omega)]; rfl
  ·obtain ⟨i, rfl⟩ := Int.eq_ofNat_of_zero_le (show 0 ≤ a by omega)
   have hi : i < l.length := by omega
   have hd : testS l (i : Nat) = if l[i].ts.length = 0 then (0, 0) else testP l[i] l (i : Nat) (moreL l i) := by
    rw [testS, if_neg (by omega), if_neg (by omega), show ((i : Int)).toNat = i from rfl, List.getElem?_eq_getElem hi]
   have hts := hs.2 _ (List.getElem_mem hi)
   have hml := moreL_len hi
   have hok := (ok_in h).2 _ (List.getElem_mem hi)
   have hof := lof_ok k l i hs h hi
   generalize moreL l i = M at *
   generalize l[i] = x at *
   have hdl : ∀ t, t ∈ x.ts → 1 ≤ t.d ∧ t.d ≤ 64 := fun t ht => by have := taskOk_in (hok.2.2 t ht).1; omega
   have hpi := hok.1
   unfold partIn at hpi
   refine vd_pure (hof) ?_
   conv => whnf
   by_cases h0 : x.ts.length = 0
   ·rw [len_tks, h0]
    conv => whnf
    refine ⟨winOk_of (by (conv => whnf); repeat' (first | exact trivial | (exact ⟨rfl, rfl, .inr ⟨_, _, rfl⟩⟩) | (refine ⟨rfl, rfl, .inl ⟨rfl, fun o ho => ?_⟩⟩; cases ho; first | rfl) | (exact ⟨rfl, .inr ⟨_, _, rfl⟩⟩) | (refine ⟨rfl, .inl ⟨rfl, fun i o hi ho => ?_⟩⟩; cases hi; cases ho; first | rfl) | (refine And.intro (fun hon => (Bool.false_ne_true hon).elim) ?_ <;> conv => whnf) | (refine And.intro (fun _ => ?_) ?_ <;> conv => whnf) | (refine And.intro ?_ ?_ <;> conv => whnf))), ?_⟩
    conv => whnf
    subst hQ
    rw [hd, if_pos h0]
    rfl
   ·rw [if_neg h0] at hd
    refine brf (by rw [len_tks]; simpa using h0) (fun hc => ?_)
    (try rw [hc])
    conv => whnf
    have hl4 := hok.2.1
    have hhy := dhyper_c x.k x.ts x.per (by omega)
    have hpu := fun n => duse_c x.k 2 x.ts M n (by omega) (by omega)
    have hhin := hyp_in x.ts x.per
    have hfar := farN_in hdl x.ts.length (Nat.le_refl _)
    have hlit := fun (fin : Nat) (hfin : fin < 1048576) (F : AV) (hF : F.cl = true) => liter x k l (i : Nat) M fin hfin hF hs hts (by omega)
    have hsl := fun n => slacks_c x k l (i : Nat) M n
    have hclk := cl_lk x k l (i : Nat) M
    unfold testP at hd
    generalize hypS x.ts x.per = H at *
    obtain ⟨hh, he⟩ := H
    simp only at hd hhin
    refine vd_pure (hhy) ?_
    conv => whnf
    by_cases he0 : he = 0
    ·subst he0
     rw [if_neg (by simp)] at hd
     have hhin := hhin rfl
     conv => whnf
     refine vd_pure (hpu hh) ?_
     generalize dUse x.ts M hh = U at *
     obtain ⟨us, ue⟩ := U
     simp only at hd
     conv => whnf
     refine ⟨_, quo_val _ _ (by omega), ?_⟩
     conv => whnf
     generalize hB : IntKind.i64.wrap (IntKind.i64.wrap (hh.tdiv x.per) * x.bud) = B at *
     by_cases hu : us > B
     ·refine brt (decide_eq_true hu) (fun hc => ?_)
      (try rw [hc])
      conv => whnf
      subst hQ
      rw [hd, if_pos hu]
      rfl
     ·rw [if_neg hu] at hd
      refine brf (decide_eq_false hu) (fun hc => ?_)
      (try rw [hc])
      conv => whnf
      have hcl : clL (lk x k l (i : Nat) M).cells = true := cells_cl hclk
      refine vc_frz [2] (i := 6) (v' := .fp (lk x k l (i : Nat) M).cells 0) rfl (.ptr' (by simp) rfl (.clean (l := (lk x k l (i : Nat) M).cells) hcl)) ?_
      refine vc_lit (B := 0) (d := 7) (l := [(4, .ptr 0 0), (5, .ptr 1 0), (6, .fp (lk x k l (i : Nat) M).cells 0), (7, .int .i64 hh), (10, .int .i64 (farN x.ts 0)), (67, .fz x.k (tks x.ts)), (68, .int .i64 (tks x.ts).length), (69, .int .i64 ((0 : Nat) : Int))]) (hk_two (.cells [.int .i64 0] true 0) (.cells [.int .i64 0] true 0)) id (by repeat' (first | exact trivial | refine renAt_sl rfl (by omega) ?_ | refine renAt_ptr rfl (by omega) ?_ | refine renAt_yield rfl (by omega) ?_ | refine renAt_cl rfl (by first | rfl | simp [clL, AV.cl, cl_ints, cl_tks, hcl]) ?_ | refine renAt_cl (inc_slot (by omega)) rfl ?_)) ⟨by omega, ⟨_, rfl, renB_cl rfl rfl⟩, by omega, ⟨_, rfl, renB_cl rfl rfl⟩, trivial⟩ (by intro b c hb hc h; exact h) (by intro b hb; omega) (by omega) ?_
      refine for_rowH 0 7 x.ts.length (fun _ => True) (fun j => [(4, .ptr 0 0), (5, .ptr 1 0), (6, .fp (lk x k l (i : Nat) M).cells 0), (7, .int .i64 hh), (10, .int .i64 (farN x.ts j)), (67, .fz x.k (tks x.ts)), (68, .int .i64 (tks x.ts).length), (69, .int .i64 ((j : Nat) : Int))]) (fun _ => ⟨2, .node (.node .nil (some (.cells [.int .i64 0] true 0)) .nil) (some (.cells [.int .i64 0] true 0)) .nil⟩) ?_ ?_ trivial
      ·intro j hj _
       have hn := farN_next hj
       have hix := idx_tk (k := x.k) hj
       generalize x.ts[j] = t at *
       show vpC fs ms 0 false false _ (ek 7 [(4, .ptr 0 0), (5, .ptr 1 0), (6, .fp (lk x k l (i : Nat) M).cells 0), (7, .int .i64 hh), (10, .int .i64 (farN x.ts j)), (67, .fz x.k (tks x.ts)), (68, .int .i64 (tks x.ts).length), (69, .int .i64 ((j : Nat) : Int))]) _ _
       generalize farN x.ts j = f at *
       conv => whnf
       refine brt (by rw [len_tks]; simp; omega) (fun hc => ?_)
       (try rw [hc])
       conv => whnf
       refine ⟨_, hix, ?_⟩
       conv => whnf
       refine ⟨trivial, id, gc_lit (hk_two (.cells [.int .i64 0] true 0) (.cells [.int .i64 0] true 0)) id ⟨⟨_, rfl, .ptr (by omega)⟩, ⟨_, rfl, .ptr (by omega)⟩, ⟨_, rfl, .cl (by simp [AV.cl, hcl])⟩, ⟨_, rfl, .cl rfl⟩, ⟨_, congrArg (fun n => some (AV.int .i64 n)) hn.symm, .cl rfl⟩, ⟨_, rfl, .cl (by simp [AV.cl, cl_tks])⟩, ⟨_, rfl, .cl rfl⟩, ⟨_, inc_slot (by omega), .cl rfl⟩, trivial⟩ ⟨by omega, ⟨_, rfl, renB_cl rfl rfl⟩, by omega, ⟨_, rfl, renB_cl rfl rfl⟩, trivial⟩ (by intro b c hb hc h; exact h) (by intro b hb; omega) (by omega)⟩
      ·intro _
       have hE := endS_in (x := x) hhin ⟨hfar.1, hfar.2.1⟩ ⟨hpi.1, hpi.2.1⟩
       have hend : endS x hh = ((endS x hh).toNat : Nat) := (Int.toNat_of_nonneg (by omega)).symm
       have hlt : (endS x hh).toNat < 1048576 := by omega
       have hes : endS x hh = sumW [hh, farN x.ts x.ts.length, x.per, x.per] := rfl
       generalize endS x hh = en at *
       generalize en.toNat = fin at *
       subst hend
       clear hfar hdl hE
       show vpC fs ms 0 false false _ (ek 7 [(4, .ptr 0 0), (5, .ptr 1 0), (6, .fp (lk x k l (i : Nat) M).cells 0), (7, .int .i64 hh), (10, .int .i64 (farN x.ts x.ts.length)), (67, .fz x.k (tks x.ts)), (68, .int .i64 (tks x.ts).length), (69, .int .i64 ((x.ts.length : Nat) : Int))]) _ _
       generalize farN x.ts x.ts.length = far at *
       conv => whnf
       refine brf (by rw [len_tks]; simp) (fun hc => ?_)
       (try rw [hc])
       conv => whnf
       refine vd_view (lsum_c 2 [hh, far, x.per, x.per] (by simp)) rfl (.cons (.row (s := 1) trivial rfl (by rfl) (size_ints _) (by simp [ints]) (Nat.le_refl _) (by omega) (fun _ => rfl) (fun _ => rfl) (cl_ints _)) .nil) ?_
       rw [← hes]
       conv => whnf
       refine vd_pure (hsl _) ?_
       conv => whnf
       refine ⟨winOk_of (by (conv => whnf); repeat' (first | exact trivial | (exact ⟨rfl, rfl, .inr ⟨_, _, rfl⟩⟩) | (refine ⟨rfl, rfl, .inl ⟨rfl, fun o ho => ?_⟩⟩; cases ho; first | rfl) | (exact ⟨rfl, .inr ⟨_, _, rfl⟩⟩) | (refine ⟨rfl, .inl ⟨rfl, fun i o hi ho => ?_⟩⟩; cases hi; cases ho; first | rfl) | (refine And.intro (fun hon => (Bool.false_ne_true hon).elim) ?_ <;> conv => whnf) | (refine And.intro (fun _ => ?_) ?_ <;> conv => whnf) | (refine And.intro ?_ ?_ <;> conv => whnf))), ?_⟩
       conv => whnf
       have hF : (AV.func (.func f_local_look_slacks_1) [] [.fp [.int .i64 (fin : Nat)] 0, .fp (lk x k l (i : Nat) M).cells 0]).cl = true := by simp [AV.cl, clL, hcl]
       refine vc_lit (B := 0) (d := 7) (l := [(4, .ptr 0 0), (5, .ptr 1 0), (89, .func (.func f_local_look_slacks_1) [] [.fp [.int .i64 (fin : Nat)] 0, .fp (lk x k l (i : Nat) M).cells 0])]) (hk_two (.cells [.int .i64 0] true 0) (.cells [.int .i64 0] true 0)) id (by repeat' (first | exact trivial | refine renAt_sl rfl (by omega) ?_ | refine renAt_ptr rfl (by omega) ?_ | refine renAt_yield rfl (by omega) ?_ | refine renAt_cl rfl (by first | rfl | simp [clL, AV.cl, cl_ints, hcl]) ?_ | refine renAt_cl (inc_slot (by omega)) rfl ?_)) ⟨by omega, ⟨_, rfl, renB_cl rfl rfl⟩, by omega, ⟨_, rfl, renB_cl rfl rfl⟩, trivial⟩ (by intro b c hb hc h; exact h) (by intro b hb; omega) (by omega) ?_
       show VC fs ms 0 false (.rangeFunc (.t 89) [90, 91] lA lB) _ _ _
       refine vc_range rfl rfl ?_
       refine VD.mono (hlit fin hlt _ hF) fun v h2 h3 => ?_
       subst h3
       cases hfb : firstBad (badB x l (i : Nat) M) 1 fin with
       | none =>
        rw [hfb] at hd
        refine ⟨.normal, 0, rfl, by decide, by simp, ?_⟩
        conv => whnf
        subst hQ
        rw [hd]
        rfl
       | some t =>
        rw [hfb] at hd
        refine ⟨.ret, 2, rfl, by decide, by simp, ?_⟩
        conv => whnf
        subst hQ
        rw [hd]
        rfl
    ·refine brt (by simpa using he0) (fun hc => ?_)
     (try rw [hc])
     conv => whnf
     refine ⟨winOk_of (by (conv => whnf); repeat' (first | exact trivial | (exact ⟨rfl, rfl, .inr ⟨_, _, rfl⟩⟩) | (refine ⟨rfl, rfl, .inl ⟨rfl, fun o ho => ?_⟩⟩; cases ho; first | rfl) | (exact ⟨rfl, .inr ⟨_, _, rfl⟩⟩) | (refine ⟨rfl, .inl ⟨rfl, fun i o hi ho => ?_⟩⟩; cases hi; cases ho; first | rfl) | (refine And.intro (fun hon => (Bool.false_ne_true hon).elim) ?_ <;> conv => whnf) | (refine And.intro (fun _ => ?_) ?_ <;> conv => whnf) | (refine And.intro ?_ ?_ <;> conv => whnf))), ?_⟩
     conv => whnf
     subst hQ
     rw [hd, if_pos he0]
     rfl
 ·refine vd_pure (lof_bad k l a hs h) ?_
  conv => whnf
  refine ⟨winOk_of (by (conv => whnf); repeat' (first | exact trivial | (exact ⟨rfl, rfl, .inr ⟨_, _, rfl⟩⟩) | (refine ⟨rfl, rfl, .inl ⟨rfl, fun o ho => ?_⟩⟩; cases ho; first | rfl) | (exact ⟨rfl, .inr ⟨_, _, rfl⟩⟩) | (refine ⟨rfl, .inl ⟨rfl, fun i o hi ho => ?_⟩⟩; cases hi; cases ho; first | rfl) | (refine And.intro (fun hon => (Bool.false_ne_true hon).elim) ?_ <;> conv => whnf) | (refine And.intro (fun _ => ?_) ?_ <;> conv => whnf) | (refine And.intro ?_ ?_ <;> conv => whnf))), ?_⟩
  conv => whnf
  subst hQ
  rw [testS, if_pos h]
  rfl
end Ir
end Go.Proofs.Ytlndlbngfgaoeaa
