/-
  Local: a partition that is looked at; its slack.
-/
import Derived.Test.YtepdklcpagielaaVSup
import Derived.Test.YtepdklcpagielaaVDel
import Derived.Test.YtepdklcpagielaaVDem
set_option maxRecDepth 100000
set_option linter.unusedSimpArgs false
set_option linter.unusedVariables false
namespace Go.Proofs.Ytepdklcpagielaa
open Go Ads
namespace Ir

def lk (x : Pt) (k : Nat) (l : List Pt) (a : Int) (m : List Int) : AV := .agg [.int .i64 x.per, .int .i64 x.bud, .fz x.k (tks x.ts), .fz k (pts l), .int .i64 a, .fz 2 (ints m)]
theorem cl_lk (x : Pt) (k : Nat) (l : List Pt) (a : Int) (m : List Int) : (lk x k l a m).cl = true := by simp [lk, AV.cl, clL, cl_tks, cl_pts, cl_ints]
def lk0 : AV := .agg [.int .i64 0, .int .i64 0, .nils, .nils, .int .i64 0, .nils]

theorem lsum_c (k : Nat) (l : List Int) (hl : l.length < 2 ^ 62) : PC fs ms f_local_sum [.fz k (ints l)] (.int .i64 (sumW l)) := by
  refine pc_of (by simp [clL, AV.cl, cl_ints]) rfl ?_
  refine vd_start (af := C_local_sum) false rfl (Nat.le_of_ble_eq_true rfl) ?_
  generalize hQ : (fun (v : AV) (_ : Heap) => v = .int .i64 (sumW l)) = Q
  set_option smartUnfolding false in conv => whnf
  refine vc_to0 5 [(2, .int .i64 (sumW (l.take 0))), (5, .fz k (ints l)), (6, .int .i64 (ints l).length), (7, .int .i64 ((0 : Nat) : Int))] (by repeat' (first | exact trivial | refine renAt_sl rfl (by omega) ?_ | refine renAt_ptr rfl (by omega) ?_ | refine renAt_yield rfl (by omega) ?_ | refine renAt_cl rfl (by first | rfl | simp [clL, AV.cl, cl_ints]) ?_ | refine renAt_cl (inc_slot (by omega)) rfl ?_)) ?_
  refine for_row 5 l.length (fun _ => True) (fun j => [(2, .int .i64 (sumW (l.take j))), (5, .fz k (ints l)), (6, .int .i64 (ints l).length), (7, .int .i64 (j : Nat))]) ?_ ?_ trivial
  · intro j hj _
    set_option smartUnfolding false in conv => whnf
    refine br (fun hc => ?_) (fun hc => ?_) <;> (try rw [hc]) <;> (set_option smartUnfolding false in conv => whnf)
    · refine ⟨_, idx_int hj, ?_⟩
      set_option smartUnfolding false in conv => whnf
      refine ⟨trivial, ⟨_, congrArg (fun n => some (AV.int .i64 n)) ?_, .cl rfl⟩, ⟨_, rfl, .cl (by simp [AV.cl, cl_ints])⟩, ⟨_, rfl, .cl rfl⟩, ⟨_, inc_slot (by omega), .cl rfl⟩, trivial⟩
      rw [take_next hj]
      simp only [sumW, List.foldl_append]
      rfl
    · exfalso
      have := of_decide_eq_false hc
      simp only [len_ints] at this
      omega
  · intro _
    set_option smartUnfolding false in conv => whnf
    refine br (fun hc => ?_) (fun hc => ?_) <;> (try rw [hc]) <;> (set_option smartUnfolding false in conv => whnf)
    · exfalso
      have := of_decide_eq_true hc
      simp only [len_ints] at this
      omega
    · subst hQ
      rw [List.take_length]

theorem lof_bad (k : Nat) (l : List Pt) (a : Int) (hs : Small l) (h : delCheck l = 2) : PC fs ms f_local_of [.fz k (pts l), .int .i64 a] (.tup [lk0, .int .i64 2]) := by
  refine pc_of (by simp [clL, AV.cl, cl_pts]) rfl ?_
  refine vd_start (af := C_local_of) false rfl (Nat.le_of_ble_eq_true rfl) ?_
  generalize hQ : (fun (v : AV) (_ : Heap) => v = .tup [lk0, .int .i64 2]) = Q
  set_option smartUnfolding false in conv => whnf
  refine vd_pure (more_bad hs h) ?_
  set_option smartUnfolding false in conv => whnf
  subst hQ
  rfl
theorem lof_out (k : Nat) (l : List Pt) (a : Int) (hs : Small l) (h : delCheck l = 0) (ha : a < 0 ∨ l.length ≤ a) : PC fs ms f_local_of [.fz k (pts l), .int .i64 a] (.tup [lk0, .int .i64 9]) := by
  refine pc_of (by simp [clL, AV.cl, cl_pts]) rfl ?_
  refine vd_start (af := C_local_of) false rfl (Nat.le_of_ble_eq_true rfl) ?_
  generalize hQ : (fun (v : AV) (_ : Heap) => v = .tup [lk0, .int .i64 9]) = Q
  set_option smartUnfolding false in conv => whnf
  refine vd_pure (more_out hs h ha) ?_
  set_option smartUnfolding false in conv => whnf
  subst hQ
  rfl
theorem lof_ok (k : Nat) (l : List Pt) (i : Nat) (hs : Small l) (h : delCheck l = 0) (hi : i < l.length) : PC fs ms f_local_of [.fz k (pts l), .int .i64 (i : Nat)] (.tup [lk l[i] k l (i : Nat) (moreL l i), .int .i64 0]) := by
  refine pc_of (by simp [clL, AV.cl, cl_pts]) (by simp [AV.cl, clL, cl_lk]) ?_
  refine vd_start (af := C_local_of) false rfl (Nat.le_of_ble_eq_true rfl) ?_
  generalize hQ : (fun (v : AV) (_ : Heap) => v = .tup [lk l[i] k l (i : Nat) (moreL l i), .int .i64 0]) = Q
  have hm := more_ok (k := k) hs h hi
  have hix := idx_pt (k := k) hi
  generalize moreL l i = M at *
  generalize l[i] = x at *
  set_option smartUnfolding false in conv => whnf
  refine vd_pure (hm) ?_
  set_option smartUnfolding false in conv => whnf
  refine ⟨_, hix, ?_⟩
  set_option smartUnfolding false in conv => whnf
  subst hQ
  rfl

def asksI (x : Pt) (m : List Int) (n : Int) : Int := (dOf x.ts m n).1
def slackI (x : Pt) (l : List Pt) (a : Int) (m : List Int) (n : Int) : Int := sumW [(supS x.per x.bud n).1, IntKind.i64.wrap (0 - asksI x m n), IntKind.i64.wrap (0 - (dOf9 l a n).1)]

theorem asks_c (x : Pt) (k : Nat) (l : List Pt) (a : Int) (m : List Int) (n : Int) (hx : x.ts.length ≤ 17592186044416) (hm : m.length < 2 ^ 62) : PC fs ms f_local_look_asks [lk x k l a m, .int .i64 n] (.int .i64 (asksI x m n)) := by
  refine pc_of (by simp [clL, cl_lk]; rfl) rfl ?_
  refine vd_start (af := C_local_look_asks) false rfl (Nat.le_of_ble_eq_true rfl) ?_
  generalize hQ : (fun (v : AV) (_ : Heap) => v = .int .i64 (asksI x m n)) = Q
  set_option smartUnfolding false in conv => whnf
  refine vd_pure (dof_c x.k 2 x.ts m n (by omega) hm) ?_
  set_option smartUnfolding false in conv => whnf
  subst hQ
  rfl
theorem slack_c (x : Pt) (k : Nat) (l : List Pt) (a : Int) (m : List Int) (n : Int) (hs : Small l) (hx : x.ts.length ≤ 17592186044416) (hm : m.length < 2 ^ 62) : PC fs ms f_local_look_slack [lk x k l a m, .int .i64 n] (.int .i64 (slackI x l a m n)) := by
  refine pc_of (by simp [clL, cl_lk]; rfl) rfl ?_
  refine vd_start (af := C_local_look_slack) false rfl (Nat.le_of_ble_eq_true rfl) ?_
  generalize hQ : (fun (v : AV) (_ : Heap) => v = .int .i64 (slackI x l a m n)) = Q
  set_option smartUnfolding false in conv => whnf
  refine vd_pure (supply_c x.per x.bud n) ?_
  set_option smartUnfolding false in conv => whnf
  refine vd_pure (dOf9_c k l a n hs) ?_
  set_option smartUnfolding false in conv => whnf
  refine vd_pure (asks_c x k l a m n hx hm) ?_
  set_option smartUnfolding false in conv => whnf
  refine vd_view (lsum_c 2 [(supS x.per x.bud n).1, IntKind.i64.wrap (0 - asksI x m n), IntKind.i64.wrap (0 - (dOf9 l a n).1)] (by simp)) rfl (.cons (.row (s := 1) trivial rfl (by rfl) (size_ints _) (by simp [ints]) (Nat.le_refl _) (by omega) (fun _ => rfl) (fun _ => rfl) (cl_ints _)) .nil) ?_
  set_option smartUnfolding false in conv => whnf
  subst hQ
  rfl

def slkS (l : List Pt) (a n : Int) : Int × Int := if delCheck l = 2 then (0, 2) else if a < 0 then (0, 9) else match l[a.toNat]? with
  | none => (0, 9)
  | some x => if n < 0 ∨ n > 1048576 then (0, 2) else (slackI x l a (moreL l a.toNat) n, 0)
theorem moreL_len {l : List Pt} {i : Nat} (hi : i < l.length) : (moreL l i).length = l[i].ts.length := by
  rw [moreL, List.getElem?_eq_getElem hi]
  simp
end Ir
end Go.Proofs.Ytepdklcpagielaa
