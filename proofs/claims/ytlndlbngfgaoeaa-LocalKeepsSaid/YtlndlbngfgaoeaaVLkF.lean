/-
  LocalKeeps.
-/
import Derived.Test.YtlndlbngfgaoeaaVLkW
import Derived.Test.YtlndlbngfgaoeaaVLocQ
set_option maxRecDepth 100000
set_option linter.unusedSimpArgs false
set_option linter.unusedVariables false
namespace Go.Proofs.Ytlndlbngfgaoeaa
open Go Ads
namespace Ir
open Edf

theorem rel_64 {md : Int} {ts : List Tk} {lt : List Int} {u : Nat} {S : LS} (hmd : 0 < md) (hok : LSok ts.length S) (ho : ∀ t, t ∈ ts → OkT t) (h : ∀ i, i < ts.length → jL S.j i ≤ 64) : ∀ i, i < ts.length → jL (relN md ts lt u S ts.length).j i ≤ 64 := by
 intro i hi
 obtain ⟨-, h2, -⟩ := relN_get (u := u) (lt := lt) (ts := ts) hmd hok i ts.length (Nat.le_refl _)
 rw [h2]
 split
 ·obtain ⟨o1, o2, o3, o4⟩ := ho _ (List.getElem_mem hi)
  rw [tC, tk_get hi]
  omega
 ·exact h i hi
theorem St_64 {md : Int} {ts : List Tk} {lt : List Int} {runs : Nat → Bool} (hmd : 0 < md) (ho : ∀ t, t ∈ ts → OkT t) : ∀ u, ∀ i, i < ts.length → jL (St md ts lt runs u).j i ≤ 64
 | 0, i, hi => by
  show jL (List.replicate ts.length (0, 0)) i ≤ 64
  rw [jL_eq (by simpa using hi)]
  simp
 | u + 1, i, hi => by
  have h1 := rel_64 (u := u) (lt := lt) hmd (St_ok (md := md) (ts := ts) (lt := lt) (runs := runs) u) ho (St_64 hmd ho u)
  have hok := relN_ok (md := md) (ts := ts) (lt := lt) (u := u) (St_ok (md := md) (ts := ts) (lt := lt) (runs := runs) u) ts.length
  show jL (execS ts.length (relN md ts lt u (St md ts lt runs u) ts.length).j (runs u)) i ≤ 64
  unfold execS
  split
  ·rename_i hp
   rcases pick_is (relN md ts lt u (St md ts lt runs u) ts.length).j ts.length with ⟨q1, -⟩ | ⟨k, q1, q2, -⟩
   ·omega
   ·rw [q1, show ((k : Nat) : Int).toNat = k by simp, jL_set (by rw [hok.1]; exact q2)]
    have := h1 k q2
    have := h1 i hi
    split <;> omega
  ·exact h1 i hi

theorem mk_any {zs : List AV} {sz bytes n : Nat} (hn : n ≤ 4) (hb : bytes ≤ 1048576) : aI (.mkslice zs sz bytes) [.int .i64 (n : Nat), .int .i64 (n : Nat)] = some (.cells (zerosN zs n) true 0, fun b => .sl b 0 n n false) := by
 have hm : bytes * n ≤ 1048576 * 4 := Nat.mul_le_mul hb hn
 have b2 : Nat.ble (bytes * n) 140737488355328 = true := Nat.ble_eq_true_of_le (by omega)
 have b3 : Nat.ble n 9223372036854775807 = true := Nat.ble_eq_true_of_le (by omega)
 have b1 : Nat.ble n n = true := Nat.ble_eq_true_of_le (by omega)
 show cond (Nat.ble n n && Nat.ble (bytes * n) 140737488355328 && Nat.ble n 9223372036854775807) (some (Blk.cells (zerosN zs n) true 0, fun b => AV.sl b 0 n n false)) none = _
 rw [b1, b2, b3]
 rfl
theorem zeros_jc : ∀ n : Nat, zerosN [.int .i64 0, .int .i64 0] n = jc (List.replicate n (0, 0))
 | 0 => rfl
 | n + 1 => by
  show AV.int .i64 0 :: AV.int .i64 0 :: zerosN [.int .i64 0, .int .i64 0] n = AV.int .i64 0 :: AV.int .i64 0 :: jc (List.replicate n (0, 0))
  rw [zeros_jc n]

theorem localKeeps_c (one : Pt) (kh kl : Nat) (how lt : List Int) (hone : one.ts.length ≤ 17592186044416) (hh : how.length < 2 ^ 62) (hlt : lt.length < 2 ^ 62) : PC fs ms f_escapementlaw10_LocalKeeps [pt one, .fz kh (ints how), .fz kl (ints lt)] (.bool true) := by
 refine pc_of (by simp [clL, AV.cl, cl_pt, cl_ints]) rfl ?_
 refine vd_begin (af := C_escapementlaw10_LocalKeeps) rfl (Nat.le_of_ble_eq_true rfl) ?_
 generalize hQ : (fun (v : AV) (_ : Heap) => v = .bool true) = Q
 have hyok := nkP_ok one
 have hmade := made10_c 0 [one] 1 (by omega) ⟨by simp, by simpa using hone⟩
 rw [show nkPs [one] 1 = [nkP one] from rfl] at hmade
 have hd1 : delCheck [nkP one] = 0 := nkPs_ok [one] 1 (by omega)
 generalize nkP one = y at *
 generalize growK [y].length = K at *
 have hys : Small [y] := ⟨by simp, fun x hx => by have := ((ok_in hd1).2 x hx).2.1; omega⟩
 have hm4 : y.ts.length ≤ 4 := ((ok_in hd1).2 y (by simp)).2.1
 have ho := okT_of hd1 (x := y) (by simp)
 have hpin : partIn y := ((ok_in hd1).2 y (by simp)).1
 have htest := ltest_c K [y] 0 hys
 have hsnd := testS_snd hd1 (i := 0) (by simp)
 have hix := idx_pt (k := K) (l := [y]) (j := 0) (by simp)
 conv => whnf
 refine vc_seq false ?_
 conv => whnf
 refine vc_seq false ?_
 conv => whnf
 refine vd_pure (works10_c) ?_
 conv => whnf
 refine vc_seq false ?_
 conv => whnf
 refine vd_frzH [1] (H := ⟨2, .node (.node .nil none .nil) (some (.cells (pt one).cells true 0)) .nil⟩) rfl (args' := [.fz 0 (pts [one]), .int .i64 ((1 : Nat) : Int)]) (.cons (.row (s := 3) (by simp) rfl (by rfl) (size_pts [one]) rfl (Nat.le_refl _) (by omega) (fun h => by omega) (fun h => by omega) (cl_pts [one])) (.cons (.clean rfl) .nil)) (vd_pure hmade ?_)
 conv => whnf
 refine vc_seq false ?_
 conv => whnf
 refine vc_seq false ?_
 conv => whnf
 refine ⟨_, hix, ?_⟩
 conv => whnf
 refine vc_frz [2] (i := 8) (v' := .fp (pt y).cells 0) rfl (.ptr' (by simp) rfl (.clean (show clL (pt y).cells = true by simp [pt, AV.cells, clL, AV.cl, cl_tks]))) ?_
 refine vc_to0 5 [(1, .fz kh (ints how)), (2, .fz kl (ints lt)), (7, .fz K (pts [y])), (8, .fp (pt y).cells 0)] ?_ ?_
 ·exact ⟨⟨_, rfl, .cl (by simp [AV.cl, cl_ints])⟩, ⟨_, rfl, .cl (by simp [AV.cl, cl_ints])⟩, ⟨_, rfl, .cl (by simp [AV.cl, cl_pts])⟩, ⟨_, rfl, .cl (cl_ptf y)⟩, trivial⟩
 refine vpC_sound (z := false) ?_
 have htest : PC fs ms f_local_Test [.fz K (pts [y]), .int .i64 0] (.tup [.int .i64 (testS [y] 0).1, .int .i64 (testS [y] 0).2]) := htest
 have hpass : (testS [y] 0).2 = 0 → 400 ≤ (gRow how y.per y.bud (gQ y.per)).length → ∀ u, u ≤ 400 → ∀ k, k < y.ts.length → 0 < jL (St 30 y.ts lt (runsOf (gRow how y.per y.bud (gQ y.per))) u).j k → ((u : Nat) : Int) < jE (St 30 y.ts lt (runsOf (gRow how y.per y.bud (gQ y.per))) u).j k := fun h h2 => keeps (l := [y]) (i := 0) hd1 (by simp) h (md := 30) (by omega) how lt (gQ y.per) 400 (by omega) h2
 have hsnd : (testS [y] 0).2 = 0 ∨ (testS [y] 0).2 = 5 ∨ (testS [y] 0).2 = 120 := hsnd
 generalize testS [y] 0 = T at *
 obtain ⟨T1, T2⟩ := T
 simp only at hsnd hpass
 conv => whnf
 refine vd_pure (v := .tup [.int .i64 T1, .int .i64 T2]) htest ?_
 conv => whnf
 rcases hsnd with rfl | rfl | rfl
 case inr.inl =>
  conv => whnf
  subst hQ
  rfl
 case inr.inr =>
  conv => whnf
  subst hQ
  rfl
 have hgiven := given_c y kh how hpin hh
 have hWl : 400 ≤ (gRow how y.per y.bud (gQ y.per)).length := by
  unfold partIn at hpin
  obtain ⟨P, hP⟩ : ∃ P : Nat, y.per = (P : Int) := ⟨y.per.toNat, by omega⟩
  have h1 := gRow_len how y.per y.bud (by omega) (gQ y.per)
  have h2 := gQ_lt (P := P) (by omega) (q := gQ y.per)
  rw [← hP] at h2
  rw [hP, Int.toNat_natCast, ← hP] at h1
  by_cases h : (gRow how y.per y.bud (gQ y.per)).length < 400
  ·rw [h1] at h
   have := h2.2 h
   omega
  ·omega
 have hpass := hpass rfl hWl
 generalize gRow how y.per y.bud (gQ y.per) = W at *
 conv => whnf
 refine vd_pure hgiven ?_
 conv => whnf
 rw [len_tks]
 refine ⟨_, _, mk_any (by omega) (by omega), ?_⟩
 conv => whnf
 rw [len_tks]
 refine ⟨_, _, mk_any (by omega) (by omega), ?_⟩
 conv => whnf
 have hdd : ∀ u, u < 400 → (St 30 y.ts lt (runsOf W) u).d ≤ 100000 := fun u hu => by
  have h1 := St_d (md := 30) (ts := y.ts) (lt := lt) (runs := runsOf W) u
  have h2 : u * y.ts.length ≤ 400 * 4 := Nat.mul_le_mul (by omega) hm4
  omega
 have h64 := fun u => rel_64 (md := 30) (u := u) (lt := lt) (by omega) (St_ok (md := 30) (ts := y.ts) (lt := lt) (runs := runsOf W) u) ho (St_64 (md := 30) (lt := lt) (runs := runsOf W) (by omega) ho u)
 refine vc_gc (ren_kp (S := St 30 y.ts lt (runsOf W) 0) (u := 0) (d := 0) (kl := kl) (lt := lt) (y := y) (W := W) rfl rfl rfl rfl rfl rfl rfl (congrArg (fun c => some (Blk.cells c true 0)) (zeros_jc _)) (congrArg (fun c => some (Blk.cells c true 0)) (zerosN_int _))) ?_
 refine for_rowL 0 5 400 (fun _ => True) (fun u => kpE kl lt y W u (St 30 y.ts lt (runsOf W) u).d) (fun u => LSH (St 30 y.ts lt (runsOf W) u)) (fun u hu _ => keep_step _ kl lt y W u (St 30 y.ts lt (runsOf W) u) ho (St_ok u) hu hWl (hdd u hu) hm4 hlt (hpass u (by omega)) (h64 u) (fun e1 h1 hg => ⟨trivial, id, hg⟩)) (fun _ => ?_) trivial
 refine vc_loop (z := false) ?_
 unfold kpE LSH
 generalize St 30 y.ts lt (runsOf W) 400 = S at *
 obtain ⟨U, hU⟩ : ∃ U : Int, ((400 : Nat) : Int) = U := ⟨_, rfl⟩
 rw [hU]
 show vpC fs ms 0 false false _ (ek 5 [(2, .fz kl (ints lt)), (8, .fp (pt y).cells 0), (11, .fz 0 (blsC W)), (12, .sl 0 0 y.ts.length y.ts.length false), (13, .sl 1 0 y.ts.length y.ts.length false), (14, .int .i64 (S.d : Nat)), (15, .int .i64 U)]) ⟨3, .node (.node .nil (some (.cells (ints S.n) true 0)) .nil) (some (.cells (jc S.j) true 0)) (.node .nil none .nil)⟩ _
 conv => whnf
 refine brf (decide_eq_false (by omega)) (fun hc => ?_)
 (try rw [hc])
 conv => whnf
 subst hQ
 rfl
end Ir
end Go.Proofs.Ytlndlbngfgaoeaa
