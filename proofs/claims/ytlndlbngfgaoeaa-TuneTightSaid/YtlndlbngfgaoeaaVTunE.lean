/-
  TuneTight: the statement.
-/
import Derived.Test.YtlndlbngfgaoeaaVTunD
set_option maxRecDepth 100000
set_option linter.unusedSimpArgs false
set_option linter.unusedVariables false
namespace Go.Proofs.Ytlndlbngfgaoeaa
open Go Ads
namespace Ir

theorem need_tight {l : List Pt} {i : Nat} (hi : i < l.length) (h1 : 1 ≤ l[i].per) (h2 : l[i].per ≤ 64) :
  (needS l i l[i].per = 0 ∧ ∀ b : Nat, 1 ≤ b → (b : Int) ≤ l[i].per → enough l i b = false) ∨
  ∃ u : Nat, needS l i l[i].per = (u : Nat) ∧ 1 ≤ u ∧ (u : Int) ≤ l[i].per ∧ enough l i u = true ∧ ∀ b : Nat, 1 ≤ b → b < u → enough l i b = false := by
 unfold needS
 rw [setPer_self hi]
 cases hf : firstBad (enough l i) 1 (min l[i].per 64).toNat with
 | none =>
  have := firstBad_none hf
  refine .inl ⟨rfl, fun b b1 b2 => ?_⟩
  have h3 := this (b - 1) (by omega)
  rwa [show 1 + (b - 1) = b by omega] at h3
 | some u =>
  obtain ⟨h3, h4, h5, h6⟩ := firstBad_some hf
  exact .inr ⟨u, rfl, h3, by omega, h5, h6⟩

set_option maxHeartbeats 2000000 in
theorem tuneTight_c (k : Nat) (l0 : List Pt) (hs0 : Small l0) : PC fs ms f_escapementlaw30_TuneTight [.fz k (pts l0)] (.bool true) := by
 refine pc_of (by simp [clL, AV.cl, cl_pts]) rfl ?_
 refine vd_start (af := C_escapementlaw30_TuneTight) false rfl (Nat.le_of_ble_eq_true rfl) ?_
 generalize hQ : (fun (v : AV) (_ : Heap) => v = .bool true) = Q
 conv => whnf
 refine vd_pure (works30_c) ?_
 conv => whnf
 refine vd_pure (cutParts_c k l0 hs0) ?_
 conv => whnf
 have hl : (cutPs l0).length ≤ 6 := by simp [cutPs]; omega
 have hs : Small (cutPs l0) := by
  refine ⟨by omega, fun x hx => ?_⟩
  obtain ⟨y, -, rfl⟩ := List.mem_map.1 hx
  simp [cutP]; omega
 have hid := cutPs_idem l0
 generalize cutPs l0 = L at *
 have hK : ∀ j, j < L.length → Nat.beq (growK L.length) 3 = false := by
  intro j hj
  cases hL : L.length with
  | zero => omega
  | succ n => rfl
 generalize growK L.length = K at *
 refine vc_to0 5 [(0, .fz K (pts L)), (3, .int .i64 ((0 : Nat) : Int))] (by repeat' (first | exact trivial | refine renAt_sl rfl (by omega) ?_ | refine renAt_ptr rfl (by omega) ?_ | refine renAt_yield rfl (by omega) ?_ | refine renAt_cl rfl (by first | rfl | simp [clL, AV.cl, cl_ints, cl_pts]) ?_ | refine renAt_cl (inc_slot (by omega)) rfl ?_)) ?_
 refine for_rowZ 5 L.length (fun j => [(0, .fz K (pts L)), (3, .int .i64 ((j : Nat) : Int))]) (fun j hj => ?_) ?_
 ·have hix := idx_pt (k := K) hj
  have hneed := Need_c K L j hs hj (hK j hj) (by omega)
  have hbud := fun b : Int => budget_c K L j b hs (by rw [hid]; exact hj)
  rw [hid] at hbud
  have htest := fun b : Nat => ltest_c 0 (setB L j (b : Nat)) (j : Nat) ⟨by rw [setB_len hj]; omega, fun x hx => by
   rw [setB_eq hj] at hx
   rcases List.mem_or_eq_of_mem_set hx with h1 | h1
   ·exact hs.2 x h1
   ·rw [h1]; exact hs.2 L[j] (List.getElem_mem hj)⟩
  have hen : ∀ b : Nat, enough L j b = ((testS (setB L j (b : Nat)) (j : Nat)).2 == 0) := fun _ => rfl
  have ht := fun h1 h2 => need_tight hj h1 h2
  unfold NeedS at hneed
  generalize needS L j L[j].per = n at *
  generalize L[j] = x at *
  show vpC fs ms 0 false false _ (ek 5 [(0, .fz K (pts L)), (3, .int .i64 ((j : Nat) : Int))]) (hk 0 []) _
  conv => whnf
  refine brt (by rw [len_pts]; simp; omega) (fun hc => ?_)
  (try rw [hc])
  conv => whnf
  refine ⟨_, hix, ?_⟩
  conv => whnf
  have hend : ∀ e1 : Env, Tr.get e1 0 = some (.fz K (pts L)) → Tr.get e1 3 = some (.int .i64 ((j + 1 : Nat) : Int)) → RenAt id 0 e1 [(0, .fz K (pts L)), (3, .int .i64 ((j + 1 : Nat) : Int))] := fun e1 h0 h3 => ⟨⟨_, h0, .cl (by simp [AV.cl, cl_pts])⟩, ⟨_, h3, .cl rfl⟩, trivial⟩
  by_cases hp1 : x.per < 1
  ·refine brt (by simpa using hp1) (fun hc => ?_)
   (try rw [hc])
   conv => whnf
   exact ⟨trivial, hend _ rfl (inc_slot (by omega))⟩
  refine brf (by simpa using hp1) (fun hc => ?_)
  (try rw [hc])
  conv => whnf
  refine ⟨_, hix, ?_⟩
  conv => whnf
  by_cases hp2 : x.per > 24
  ·refine brt (by simpa using hp2) (fun hc => ?_)
   (try rw [hc])
   conv => whnf
   exact ⟨trivial, hend _ rfl (inc_slot (by omega))⟩
  refine brf (by simpa using hp2) (fun hc => ?_)
  (try rw [hc])
  conv => whnf
  have hneed := hneed (by omega)
  rcases ht (by omega) (by omega) with ⟨h0, hno⟩ | ⟨u, hu, u1, u2, u3, u4⟩
  ·subst h0
   rw [if_pos rfl] at hneed
   refine vd_pure (v := .tup [.int .i64 0, .int .i64 120]) hneed ?_
   conv => whnf
   refine ⟨_, hix, ?_⟩
   conv => whnf
   refine brf (by simp; omega) (fun hc => ?_)
   (try rw [hc])
   conv => whnf
   refine vc_to0 5 [(0, .fz K (pts L)), (3, .int .i64 ((j : Nat) : Int)), (4, .int .i64 0), (6, .int .i64 ((0 + 1 : Nat) : Int))] (by repeat' (first | exact trivial | refine renAt_sl rfl (by omega) ?_ | refine renAt_ptr rfl (by omega) ?_ | refine renAt_yield rfl (by omega) ?_ | refine renAt_cl rfl (by first | rfl | simp [clL, AV.cl, cl_ints, cl_pts]) ?_ | refine renAt_cl (inc_slot (by omega)) rfl ?_)) ?_
   refine for_rowZ 5 x.per.toNat (fun r => [(0, .fz K (pts L)), (3, .int .i64 ((j : Nat) : Int)), (4, .int .i64 0), (6, .int .i64 ((r + 1 : Nat) : Int))]) (fun r hr => ?_) ?_
   ·show vpC fs ms 0 false false _ (ek 5 [(0, .fz K (pts L)), (3, .int .i64 ((j : Nat) : Int)), (4, .int .i64 0), (6, .int .i64 ((r + 1 : Nat) : Int))]) (hk 0 []) _
    have htr := htest (r + 1)
    have her := hen (r + 1)
    generalize hB : setB L j ((r + 1 : Nat) : Int) = B at *
    have hbr := hbud ((r + 1 : Nat) : Int)
    rw [hB] at hbr
    generalize testS B (j : Nat) = T at *
    obtain ⟨T1, T2⟩ := T
    have htr : PC fs ms f_local_Test [AV.fz 0 (pts B), AV.int IntKind.i64 (j : Nat)] (.tup [.int .i64 T1, .int .i64 T2]) := htr
    conv => whnf
    refine ⟨_, hix, ?_⟩
    conv => whnf
    refine brt (by simp; omega) (fun hc => ?_)
    (try rw [hc])
    conv => whnf
    refine vd_pure (hbr) ?_
    conv => whnf
    refine vd_pure (htr) ?_
    conv => whnf
    refine brf (by rw [show (T2 == 0) = false from her.symm.trans (hno _ (by omega) (by omega))]; simp; omega) (fun hc => ?_)
    (try rw [hc])
    conv => whnf
    exact ⟨trivial, ⟨_, rfl, .cl (by simp [AV.cl, cl_pts])⟩, ⟨_, rfl, .cl rfl⟩, ⟨_, rfl, .cl rfl⟩, ⟨_, inc_slot (by omega), .cl rfl⟩, trivial⟩
   ·refine vc_loop (z := false) ?_
    show vpC fs ms 0 false false _ (ek 5 [(0, .fz K (pts L)), (3, .int .i64 ((j : Nat) : Int)), (4, .int .i64 0), (6, .int .i64 ((x.per.toNat + 1 : Nat) : Int))]) (hk 0 []) _
    conv => whnf
    refine ⟨_, hix, ?_⟩
    conv => whnf
    refine brf (by simp; omega) (fun hc => ?_)
    (try rw [hc])
    conv => whnf
    exact ⟨trivial, hend _ rfl (inc_slot (by omega))⟩
  ·subst hu
   rw [if_neg (by omega)] at hneed
   refine vd_pure (v := .tup [.int .i64 (u : Nat), .int .i64 0]) hneed ?_
   conv => whnf
   refine ⟨_, hix, ?_⟩
   conv => whnf
   refine brf (by simp; omega) (fun hc => ?_)
   (try rw [hc])
   conv => whnf
   refine brf (by simp; omega) (fun hc => ?_)
   (try rw [hc])
   conv => whnf
   refine vc_to0 5 [(0, .fz K (pts L)), (3, .int .i64 ((j : Nat) : Int)), (4, .int .i64 (u : Nat)), (6, .int .i64 ((0 + 1 : Nat) : Int))] (by repeat' (first | exact trivial | refine renAt_sl rfl (by omega) ?_ | refine renAt_ptr rfl (by omega) ?_ | refine renAt_yield rfl (by omega) ?_ | refine renAt_cl rfl (by first | rfl | simp [clL, AV.cl, cl_ints, cl_pts]) ?_ | refine renAt_cl (inc_slot (by omega)) rfl ?_)) ?_
   refine for_rowZ 5 u (fun r => [(0, .fz K (pts L)), (3, .int .i64 ((j : Nat) : Int)), (4, .int .i64 (u : Nat)), (6, .int .i64 ((r + 1 : Nat) : Int))]) (fun r hr => ?_) ?_
   ·show vpC fs ms 0 false false _ (ek 5 [(0, .fz K (pts L)), (3, .int .i64 ((j : Nat) : Int)), (4, .int .i64 (u : Nat)), (6, .int .i64 ((r + 1 : Nat) : Int))]) (hk 0 []) _
    have htr := htest (r + 1)
    have her := hen (r + 1)
    generalize hB : setB L j ((r + 1 : Nat) : Int) = B at *
    have hbr := hbud ((r + 1 : Nat) : Int)
    rw [hB] at hbr
    generalize testS B (j : Nat) = T at *
    obtain ⟨T1, T2⟩ := T
    have htr : PC fs ms f_local_Test [AV.fz 0 (pts B), AV.int IntKind.i64 (j : Nat)] (.tup [.int .i64 T1, .int .i64 T2]) := htr
    conv => whnf
    refine ⟨_, hix, ?_⟩
    conv => whnf
    refine brt (by simp; omega) (fun hc => ?_)
    (try rw [hc])
    conv => whnf
    refine brf (by simp; omega) (fun hc => ?_)
    (try rw [hc])
    conv => whnf
    refine brt (by simp; omega) (fun hc => ?_)
    (try rw [hc])
    conv => whnf
    refine vd_pure (hbr) ?_
    conv => whnf
    refine vd_pure (htr) ?_
    conv => whnf
    have hT : (T2 == 0) = (((r + 1 : Nat) : Int) == (u : Nat)) := by
     by_cases hru : r + 1 = u
     ·subst hru
      rw [← show enough L j (r + 1) = (T2 == 0) from her, u3]
      simp
     ·rw [← show enough L j (r + 1) = (T2 == 0) from her, u4 _ (by omega) (by omega)]
      symm
      simp; omega
    refine brf (by rw [hT]; simp) (fun hc => ?_)
    (try rw [hc])
    conv => whnf
    exact ⟨trivial, ⟨_, rfl, .cl (by simp [AV.cl, cl_pts])⟩, ⟨_, rfl, .cl rfl⟩, ⟨_, rfl, .cl rfl⟩, ⟨_, inc_slot (by omega), .cl rfl⟩, trivial⟩
   ·refine vc_loop (z := false) ?_
    show vpC fs ms 0 false false _ (ek 5 [(0, .fz K (pts L)), (3, .int .i64 ((j : Nat) : Int)), (4, .int .i64 (u : Nat)), (6, .int .i64 ((u + 1 : Nat) : Int))]) (hk 0 []) _
    conv => whnf
    refine ⟨_, hix, ?_⟩
    conv => whnf
    by_cases hq : ((u + 1 : Nat) : Int) ≤ x.per
    ·refine brt (by simpa using hq) (fun hc => ?_)
     (try rw [hc])
     conv => whnf
     refine brf (by simp; omega) (fun hc => ?_)
     (try rw [hc])
     conv => whnf
     refine brf (by simp; omega) (fun hc => ?_)
     (try rw [hc])
     conv => whnf
     exact ⟨trivial, hend _ rfl (inc_slot (by omega))⟩
    ·refine brf (by simpa using hq) (fun hc => ?_)
     (try rw [hc])
     conv => whnf
     exact ⟨trivial, hend _ rfl (inc_slot (by omega))⟩
 ·refine vc_loop (z := false) ?_
  conv => whnf
  refine brf (by rw [len_pts]; simp) (fun hc => ?_)
  (try rw [hc])
  conv => whnf
  subst hQ
  rfl
end Ir
end Go.Proofs.Ytlndlbngfgaoeaa
