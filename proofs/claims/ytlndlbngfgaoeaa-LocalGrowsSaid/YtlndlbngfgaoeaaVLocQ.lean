/-
  LocalAll.
-/
import Derived.Test.YtlndlbngfgaoeaaVLocP
import Derived.Test.YtlndlbngfgaoeaaVLocO
import Derived.Test.YtlndlbngfgaoeaaVLocW
import Derived.Test.YtlndlbngfgaoeaaVDelT
set_option maxRecDepth 100000
set_option linter.unusedSimpArgs false
set_option linter.unusedVariables false
namespace Go.Proofs.Ytlndlbngfgaoeaa
open Go Ads
namespace Ir

def askL (n : Int) (ts : List Tk) : Nat → Int
 | 0 => 0
 | j + 1 => match ts[j]? with
  | some t => if n ≥ t.d then askL n ts j + (1 + (n - t.d) / t.p) * t.w else askL n ts j
  | none => askL n ts j
theorem askL_next {n : Int} {ts : List Tk} {j : Nat} (h : j < ts.length) : askL n ts (j + 1) = if n ≥ ts[j].d then askL n ts j + (1 + (n - ts[j].d) / ts[j].p) * ts[j].w else askL n ts j := by
 rw [askL, List.getElem?_eq_getElem h]
theorem askL_one {n : Int} {t : Tk} (ho : OkT t) (h1 : n ≤ 1048576) (hd : n ≥ t.d) : 1 ≤ 1 + (n - t.d) / t.p ∧ 1 + (n - t.d) / t.p ≤ 1048577 ∧ 0 ≤ (1 + (n - t.d) / t.p) * t.w ∧ (1 + (n - t.d) / t.p) * t.w ≤ 67108928 := by
 obtain ⟨o1, o2, o3, o4⟩ := ho
 have b1 : 0 ≤ (n - t.d) / t.p := Int.ediv_nonneg (by omega) (by omega)
 have b2 : (n - t.d) / t.p ≤ n - t.d := Int.ediv_le_self _ (by omega)
 generalize (n - t.d) / t.p = z at *
 have b3 : 0 ≤ (1 + z) * t.w := Int.mul_nonneg (by omega) (by omega)
 have b4 : (1 + z) * t.w ≤ 1048577 * 64 := Int.mul_le_mul (by omega) (by omega) (by omega) (by omega)
 omega
theorem askL_in {n : Int} {ts : List Tk} (hO : ∀ t, t ∈ ts → OkT t) (h1 : n ≤ 1048576) : ∀ j, j ≤ ts.length → 0 ≤ askL n ts j ∧ askL n ts j ≤ j * 67108928
 | 0, _ => by simp [askL]
 | j + 1, hj => by
  have hlt : j < ts.length := by omega
  have ih := askL_in hO h1 j (by omega)
  rw [askL_next hlt]
  split
  ·have := askL_one (hO _ (List.getElem_mem hlt)) h1 (by assumption)
   omega
  ·omega
theorem askL_zero {n : Int} {ts : List Tk} (h : ∀ t, t ∈ ts → n < t.d) : ∀ j, j ≤ ts.length → askL n ts j = 0
 | 0, _ => rfl
 | j + 1, hj => by
  have hlt : j < ts.length := by omega
  have := h _ (List.getElem_mem hlt)
  rw [askL_next hlt, if_neg (by omega), askL_zero h j (by omega)]

theorem asks10_c (x : Pt) (n : Int) (hl : x.ts.length ≤ 4) (hO : ∀ t, t ∈ x.ts → OkT t) (h0 : 0 ≤ n) (h1 : n ≤ 1048576) : PC fs ms f_escapementlaw10_asks [pt x, .int .i64 n] (.int .i64 (askL n x.ts x.ts.length)) := by
 refine pc_of (by simp [clL, cl_pt]; rfl) rfl ?_
 refine vd_start (af := C_escapementlaw10_asks) false rfl (Nat.le_of_ble_eq_true rfl) ?_
 generalize hQ : (fun (v : AV) (_ : Heap) => v = .int .i64 (askL n x.ts x.ts.length)) = Q
 have hcl : clL (pt x).cells = true := cells_cl (cl_pt x)
 conv => whnf
 refine vc_frz [0] (i := 2) (v' := .fp (pt x).cells 0) rfl (.ptr' (by simp) rfl (.clean (l := (pt x).cells) hcl)) ?_
 refine vc_to0 5 [(1, .int .i64 n), (2, .fp (pt x).cells 0), (5, .int .i64 (askL n x.ts 0)), (6, .int .i64 ((0 : Nat) : Int))] (by repeat' (first | exact trivial | refine renAt_sl rfl (by omega) ?_ | refine renAt_ptr rfl (by omega) ?_ | refine renAt_yield rfl (by omega) ?_ | refine renAt_cl rfl (by first | rfl | simp [clL, AV.cl, cl_ints, hcl]) ?_ | refine renAt_cl (inc_slot (by omega)) rfl ?_)) ?_
 refine for_row 5 x.ts.length (fun _ => True) (fun j => [(1, .int .i64 n), (2, .fp (pt x).cells 0), (5, .int .i64 (askL n x.ts j)), (6, .int .i64 (j : Nat))]) ?_ ?_ trivial
 ·intro j hj _
  have hn := askL_next (n := n) hj
  have hb := askL_in hO h1 j (by omega)
  have hot := hO _ (List.getElem_mem hj)
  have hix := idx_tk (k := x.k) hj
  generalize x.ts[j] = t at *
  show vpC fs ms 0 false false _ (ek 5 [(1, .int .i64 n), (2, .fp (pt x).cells 0), (5, .int .i64 (askL n x.ts j)), (6, .int .i64 (j : Nat))]) _ _
  generalize askL n x.ts j = s at *
  have hot' := hot
  unfold OkT at hot'
  conv => whnf
  refine brt (by rw [len_tks]; simp; omega) (fun hc => ?_)
  (try rw [hc])
  conv => whnf
  refine ⟨_, hix, ?_⟩
  conv => whnf
  by_cases hd : n ≥ t.d
  ·rw [if_pos hd] at hn
   obtain ⟨z1, z2, z3, z4⟩ := askL_one hot h1 hd
   have e1 : IntKind.i64.wrap (n - t.d) = n - t.d := IntWalk.i64_in _ (by omega)
   have e2 : (n - t.d).tdiv t.p = (n - t.d) / t.p := Int.tdiv_eq_ediv_of_nonneg (by omega)
   refine brt (decide_eq_true hd) (fun hc => ?_)
   (try rw [hc])
   conv => whnf
   rw [e1]
   refine ⟨_, quo_val _ _ (by omega), ?_⟩
   rw [e2]
   generalize (n - t.d) / t.p = z at *
   have e3 : IntKind.i64.wrap z = z := IntWalk.i64_in _ (by omega)
   have e4 : IntKind.i64.wrap (1 + z) = 1 + z := IntWalk.i64_in _ (by omega)
   have e5 : IntKind.i64.wrap ((1 + z) * t.w) = (1 + z) * t.w := IntWalk.i64_in _ (by omega)
   have e6 : IntKind.i64.wrap (s + (1 + z) * t.w) = s + (1 + z) * t.w := IntWalk.i64_in _ (by omega)
   rw [e3]
   conv => whnf
   refine ⟨trivial, ⟨_, rfl, .cl rfl⟩, ⟨_, rfl, .cl (by simp [AV.cl, hcl])⟩, ⟨_, congrArg (fun m => some (AV.int .i64 m)) (show IntKind.i64.wrap (s + IntKind.i64.wrap (IntKind.i64.wrap (1 + z) * t.w)) = askL n x.ts (j + 1) by rw [e4, e5, e6, hn]), .cl rfl⟩, ⟨_, inc_slot (by omega), .cl rfl⟩, trivial⟩
  ·rw [if_neg hd] at hn
   refine brf (decide_eq_false hd) (fun hc => ?_)
   (try rw [hc])
   conv => whnf
   refine ⟨trivial, ⟨_, rfl, .cl rfl⟩, ⟨_, rfl, .cl (by simp [AV.cl, hcl])⟩, ⟨_, congrArg (fun m => some (AV.int .i64 m)) hn.symm, .cl rfl⟩, ⟨_, inc_slot (by omega), .cl rfl⟩, trivial⟩
 ·intro _
  conv => whnf
  refine brf (by rw [len_tks]; simp) (fun hc => ?_)
  (try rw [hc])
  conv => whnf
  subst hQ
  rfl

set_option maxHeartbeats 1000000 in
theorem localAll_c (k : Nat) (l0 : List Pt) (part t : Int) (hs0 : Small l0) : PC fs ms f_escapementlaw10_LocalAll [.fz k (pts l0), .int .i64 part, .int .i64 t] (.bool true) := by
 refine pc_of (by simp [clL, AV.cl, cl_pts]) rfl ?_
 refine vd_start (af := C_escapementlaw10_LocalAll) false rfl (Nat.le_of_ble_eq_true rfl) ?_
 generalize hQ : (fun (v : AV) (_ : Heap) => v = .bool true) = Q
 conv => whnf
 refine vd_pure (made10_c k l0 4 (by omega) hs0) ?_
 conv => whnf
 have h := nkPs_ok l0 4 (by omega)
 have hs := nkPs_small l0 4 (by omega)
 generalize nkPs l0 4 = l at *
 generalize growK l.length = k1
 have hl4 := (ok_in h).1
 by_cases hne : l.length = 0
 ·refine brt (by rw [len_pts]; simpa using hne) (fun hc => ?_)
  (try rw [hc])
  conv => whnf
  refine vd_pure (works10_c) ?_
  conv => whnf
  subst hQ
  rfl
 ·refine brf (by rw [len_pts]; simpa using hne) (fun hc => ?_)
  (try rw [hc])
  conv => whnf
  rw [len_pts]
  refine vd_pure (bring_c part (l.length : Nat) (by omega) (by omega)) ?_
  obtain ⟨i, hi⟩ : ∃ i : Nat, bring part (l.length : Nat) = (i : Nat) := ⟨(bring part (l.length : Nat)).toNat, (Int.toNat_of_nonneg (Int.emod_nonneg part (by omega))).symm⟩
  have hil : i < l.length := by
   have := Int.emod_lt_of_pos part (show (0 : Int) < (l.length : Nat) by omega)
   unfold bring at hi
   omega
  rw [hi]
  clear hi
  conv => whnf
  refine vd_pure (ltest_c k1 l (i : Nat) hs) ?_
  have hT := testS_snd h hil
  have hall := pass_all h hil
  have hslk := fun n => lslack_c k1 l (i : Nat) n hs
  have hd : ∀ n : Int, 0 ≤ n → n ≤ 1048576 → slkS l (i : Nat) n = (slackI l[i] l (i : Nat) (moreL l i) n, 0) := by
   intro n n0 n1
   rw [slkS, if_neg (by omega), if_neg (by omega), show ((i : Int)).toNat = i from rfl, List.getElem?_eq_getElem hil]
   simp only
   rw [if_neg (by omega)]
  have hix := idx_pt (k := k1) hil
  have hx : l[i] ∈ l := List.getElem_mem hil
  have hok := (ok_in h).2 _ hx
  have hO := okT_of h hx
  have hpl := fun (n : Int) (n0 : 0 ≤ n) (n1 : n ≤ 1048576) => (slack_plain h hil n0 n1).1
  have hM := moreL_in h i hil
  have hml := moreL_len hil
  generalize testS l (i : Nat) = T at *
  obtain ⟨T1, T2⟩ := T
  simp only at hT hall
  rcases hT with rfl | rfl | rfl
  ·have hall := hall rfl
   conv => whnf
   refine vc_to0 5 [(0, .fz k1 (pts l)), (2, .int .i64 t), (7, .int .i64 (i : Nat)), (10, .int .i64 ((0 : Nat) : Int))] (by repeat' (first | exact trivial | refine renAt_sl rfl (by omega) ?_ | refine renAt_ptr rfl (by omega) ?_ | refine renAt_yield rfl (by omega) ?_ | refine renAt_cl rfl (by first | rfl | simp [clL, AV.cl, cl_ints, cl_pts]) ?_ | refine renAt_cl (inc_slot (by omega)) rfl ?_)) ?_
   refine for_row 5 60 (fun _ => True) (fun j => [(0, .fz k1 (pts l)), (2, .int .i64 t), (7, .int .i64 (i : Nat)), (10, .int .i64 (j : Nat))]) ?_ ?_ trivial
   ·intro j hj _
    show vpC fs ms 0 false false _ (ek 5 [(0, .fz k1 (pts l)), (2, .int .i64 t), (7, .int .i64 (i : Nat)), (10, .int .i64 (j : Nat))]) _ _
    have hfin : ∀ J : Int, ((j : Nat) : Int) = J → IntKind.i64.wrap (J + 1) = ((j + 1 : Nat) : Int) := by rintro J rfl; exact inc_val (by omega)
    generalize hJ : ((j : Nat) : Int) = J at *
    have hfin := hfin J rfl
    conv => whnf
    refine brt (decide_eq_true (by omega)) (fun hc => ?_)
    (try rw [hc])
    conv => whnf
    refine vd_pure (bring_c _ 30000 (by omega) (by omega)) ?_
    have hb0 := Int.emod_nonneg (IntKind.i64.wrap (t + IntKind.i64.wrap (J * J))) (show (30000 : Int) ≠ 0 by omega)
    have hb1 := Int.emod_lt_of_pos (IntKind.i64.wrap (t + IntKind.i64.wrap (J * J))) (show (0 : Int) < 30000 by omega)
    obtain ⟨n, hn⟩ : ∃ n : Nat, bring (IntKind.i64.wrap (t + IntKind.i64.wrap (J * J))) 30000 = (n : Nat) := ⟨(bring (IntKind.i64.wrap (t + IntKind.i64.wrap (J * J))) 30000).toNat, (Int.toNat_of_nonneg hb0).symm⟩
    have hn3 : n < 30000 := by unfold bring at hn; omega
    rw [hn]
    clear hn hb0 hb1
    conv => whnf
    have hsn := hslk (n : Nat)
    rw [hd _ (by omega) (by omega)] at hsn
    have hbad := hall n (by omega)
    have hask := asks10_c l[i] (n : Nat) hok.2.1 hO (by omega) (by omega)
    have hz : ¬ askL (n : Nat) l[i].ts l[i].ts.length > 0 ∨ 0 ≤ slackI l[i] l (i : Nat) (moreL l i) (n : Nat) := by
     by_cases hex : ∃ u, u ∈ l[i].ts ∧ u.d ≤ (n : Nat)
     ·refine .inr (hbad ?_)
      rw [hpl _ (by omega) (by omega)]
      exact (ask_pos (by omega) _ _ hml hO (fun m hm => (hM m hm).1)).2 hex
     ·refine .inl ?_
      rw [askL_zero (fun u hu => by
       rcases Int.lt_or_le (n : Int) u.d with h1 | h1
       ·exact h1
       ·exact absurd ⟨u, hu, h1⟩ hex) _ (Nat.le_refl _)]
      omega
    generalize slackI l[i] l (i : Nat) (moreL l i) (n : Nat) = S at *
    generalize askL (n : Nat) l[i].ts l[i].ts.length = A at *
    generalize l[i] = x at *
    refine vd_pure hsn ?_
    conv => whnf
    by_cases hS : S < 0
    ·refine brt (decide_eq_true hS) (fun hc => ?_)
     (try rw [hc])
     conv => whnf
     refine ⟨_, hix, ?_⟩
     conv => whnf
     refine vd_pure hask ?_
     conv => whnf
     refine brf (decide_eq_false (by omega)) (fun hc => ?_)
     (try rw [hc])
     conv => whnf
     exact ⟨trivial, ⟨_, rfl, .cl (by simp [AV.cl, cl_pts])⟩, ⟨_, rfl, .cl rfl⟩, ⟨_, rfl, .cl rfl⟩, ⟨_, congrArg (fun m => some (AV.int .i64 m)) hfin, .cl rfl⟩, trivial⟩
    ·refine brf (decide_eq_false hS) (fun hc => ?_)
     (try rw [hc])
     conv => whnf
     exact ⟨trivial, ⟨_, rfl, .cl (by simp [AV.cl, cl_pts])⟩, ⟨_, rfl, .cl rfl⟩, ⟨_, rfl, .cl rfl⟩, ⟨_, congrArg (fun m => some (AV.int .i64 m)) hfin, .cl rfl⟩, trivial⟩
   ·intro _
    conv => whnf
    refine vd_pure (works10_c) ?_
    conv => whnf
    subst hQ
    rfl
  ·conv => whnf
   refine vd_pure (works10_c) ?_
   conv => whnf
   subst hQ
   rfl
  ·conv => whnf
   refine vd_pure (works10_c) ?_
   conv => whnf
   subst hQ
   rfl
end Ir
end Go.Proofs.Ytlndlbngfgaoeaa
