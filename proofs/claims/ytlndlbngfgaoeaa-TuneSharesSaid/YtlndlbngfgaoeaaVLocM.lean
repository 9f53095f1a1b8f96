/-
  Local: partitions made to be such.
-/
import Derived.Test.YtlndlbngfgaoeaaVDel
import Derived.Test.YtlndlbngfgaoeaaVR0
import Derived.Test.YtlndlbngfgaoeaaVsGrow
set_option maxRecDepth 100000
set_option linter.unusedSimpArgs false
set_option linter.unusedVariables false
namespace Go.Proofs.Ytlndlbngfgaoeaa
open Go Ads
namespace Ir

def n9p (t : Tk) : Int := 1 + t.p % 48
def n9d (t : Tk) : Int := 1 + t.d % n9p t
def n9w (t : Tk) : Int := 1 + t.w % n9d t
def n9b (t : Tk) : Int := t.b % (n9w t + 1)
def n9c (t : Tk) : Int := t.c % 5
def n9e (bud : Int) (t : Tk) : Int := 1 + t.e % min bud (n9w t)
def n9f (bud : Int) (t : Tk) : Int := 1 + t.f % (n9w t / n9e bud t)
def n9 (bud : Int) (t : Tk) : Tk := ⟨n9p t, n9d t, n9w t, 0, n9b t, n9c t, if n9c t > 0 then n9e bud t else 0, if n9c t > 0 then n9f bud t else 0⟩
def nkTs (bud : Int) (l : List Tk) : List Tk := (l.take 4).map (n9 bud)
def q9p (x : Pt) : Int := 1 + x.per % 10
def q9b (x : Pt) : Int := 1 + x.bud % q9p x
def nkP (x : Pt) : Pt := ⟨q9p x, q9b x, growK (nkTs (q9b x) x.ts).length, nkTs (q9b x) x.ts⟩
def nkPs (l : List Pt) (m : Nat) : List Pt := (l.take m).map nkP

theorem n9_in (bud : Int) (t : Tk) (hb : 1 ≤ bud) : (1 ≤ n9p t ∧ n9p t ≤ 64) ∧ (1 ≤ n9d t ∧ n9d t ≤ n9p t) ∧ (1 ≤ n9w t ∧ n9w t ≤ n9d t) ∧ (0 ≤ n9b t ∧ n9b t ≤ n9w t) ∧ (0 ≤ n9c t ∧ n9c t ≤ 4) ∧ (1 ≤ n9e bud t ∧ n9e bud t ≤ bud ∧ n9e bud t ≤ n9w t) ∧ (1 ≤ n9f bud t ∧ n9f bud t ≤ n9w t / n9e bud t) ∧ 1 ≤ n9w t / n9e bud t := by
 have a1 := Int.emod_nonneg t.p (show (48 : Int) ≠ 0 by omega)
 have a2 := Int.emod_lt_of_pos t.p (show (0 : Int) < 48 by omega)
 have hp : 1 ≤ n9p t ∧ n9p t ≤ 64 := by unfold n9p; omega
 have b1 := Int.emod_nonneg t.d (show n9p t ≠ 0 by omega)
 have b2 := Int.emod_lt_of_pos t.d (show 0 < n9p t by omega)
 have hd : 1 ≤ n9d t ∧ n9d t ≤ n9p t := by unfold n9d; omega
 have c1 := Int.emod_nonneg t.w (show n9d t ≠ 0 by omega)
 have c2 := Int.emod_lt_of_pos t.w (show 0 < n9d t by omega)
 have hw : 1 ≤ n9w t ∧ n9w t ≤ n9d t := by unfold n9w; omega
 have d1 := Int.emod_nonneg t.b (show n9w t + 1 ≠ 0 by omega)
 have d2 := Int.emod_lt_of_pos t.b (show 0 < n9w t + 1 by omega)
 have hlo : 0 ≤ n9b t ∧ n9b t ≤ n9w t := by unfold n9b; omega
 have e1 := Int.emod_nonneg t.c (show (5 : Int) ≠ 0 by omega)
 have e2 := Int.emod_lt_of_pos t.c (show (0 : Int) < 5 by omega)
 have hc : 0 ≤ n9c t ∧ n9c t ≤ 4 := by unfold n9c; omega
 have f1 := Int.emod_nonneg t.e (show min bud (n9w t) ≠ 0 by omega)
 have f2 := Int.emod_lt_of_pos t.e (show 0 < min bud (n9w t) by omega)
 have he : 1 ≤ n9e bud t ∧ n9e bud t ≤ bud ∧ n9e bud t ≤ n9w t := by unfold n9e; omega
 have hq : 1 ≤ n9w t / n9e bud t := by
  rw [Int.le_ediv_iff_mul_le (by omega)]
  omega
 have g1 := Int.emod_nonneg t.f (show n9w t / n9e bud t ≠ 0 by omega)
 have g2 := Int.emod_lt_of_pos t.f (show 0 < n9w t / n9e bud t by omega)
 have hf : 1 ≤ n9f bud t ∧ n9f bud t ≤ n9w t / n9e bud t := by unfold n9f; omega
 exact ⟨hp, hd, hw, hlo, hc, he, hf, hq⟩
theorem n9_ok (bud : Int) (t : Tk) (hb : 1 ≤ bud) : taskOk (n9 bud t) = true ∧ mayD (n9 bud t) bud = true := by
 obtain ⟨hp, hd, hw, hlo, hc, he, hf, hq⟩ := n9_in bud t hb
 constructor
 ·refine decide_eq_true ?_
  show 1 ≤ n9w t ∧ n9w t ≤ n9d t ∧ n9d t ≤ n9p t ∧ n9p t ≤ 64
  omega
 ·refine decide_eq_true ?_
  show 0 ≤ n9b t ∧ n9b t ≤ n9w t ∧ 0 ≤ n9c t ∧ n9c t ≤ 4 ∧ ((n9c t = 0 ∧ (if n9c t > 0 then n9e bud t else 0) = 0 ∧ (if n9c t > 0 then n9f bud t else 0) = 0) ∨ (n9c t ≠ 0 ∧ 1 ≤ (if n9c t > 0 then n9e bud t else 0) ∧ (if n9c t > 0 then n9e bud t else 0) ≤ bud ∧ 1 ≤ (if n9c t > 0 then n9f bud t else 0) ∧ (if n9c t > 0 then n9e bud t else 0) * (if n9c t > 0 then n9f bud t else 0) ≤ n9w t))
  refine ⟨hlo.1, hlo.2, hc.1, hc.2, ?_⟩
  by_cases h0 : n9c t > 0
  ·rw [if_pos h0, if_pos h0]
   refine .inr ⟨by omega, he.1, he.2.1, hf.1, ?_⟩
   have h1 : n9e bud t * n9f bud t ≤ n9e bud t * (n9w t / n9e bud t) := Int.mul_le_mul_of_nonneg_left hf.2 (by omega)
   have h2 := Int.mul_ediv_self_le (x := n9w t) (k := n9e bud t) (by omega)
   omega
  ·rw [if_neg h0, if_neg h0]
   exact .inl ⟨by omega, rfl, rfl⟩
theorem q9_in (x : Pt) : 1 ≤ q9p x ∧ q9p x ≤ 64 ∧ 1 ≤ q9b x ∧ q9b x ≤ q9p x := by
 have a1 := Int.emod_nonneg x.per (show (10 : Int) ≠ 0 by omega)
 have a2 := Int.emod_lt_of_pos x.per (show (0 : Int) < 10 by omega)
 have hp : 1 ≤ q9p x ∧ q9p x ≤ 64 := by unfold q9p; omega
 have b1 := Int.emod_nonneg x.bud (show q9p x ≠ 0 by omega)
 have b2 := Int.emod_lt_of_pos x.bud (show 0 < q9p x by omega)
 unfold q9b
 omega
theorem nkP_ok (x : Pt) : partOk (nkP x) = true := by
 have hin := q9_in x
 have ht : ∀ t, t ∈ nkTs (q9b x) x.ts → taskOk t = true ∧ mayD t (q9b x) = true := by
  intro t ht
  obtain ⟨u, -, rfl⟩ := List.mem_map.1 ht
  exact n9_ok _ _ hin.2.2.1
 simp only [partOk, nkP, Bool.and_eq_true]
 refine ⟨decide_eq_true hin, ?_, ?_⟩
 ·rw [tasksOk, Bool.and_eq_true, List.all_eq_true]
  refine ⟨fun t h => (ht t h).1, decide_eq_true ?_⟩
  simp [nkTs]
  omega
 ·rw [List.all_eq_true]
  exact fun t h => (ht t h).2
theorem nkPs_ok (l : List Pt) (m : Nat) (hm : m ≤ 4) : delCheck (nkPs l m) = 0 := by
 rw [delCheck, if_pos]
 refine ⟨by simp [nkPs]; omega, ?_⟩
 rw [List.all_eq_true]
 intro x hx
 obtain ⟨y, -, rfl⟩ := List.mem_map.1 hx
 exact nkP_ok y
theorem nkPs_small (l : List Pt) (m : Nat) (hm : m ≤ 4) : Small (nkPs l m) := by
 refine ⟨by simp [nkPs]; omega, ?_⟩
 intro x hx
 obtain ⟨y, -, rfl⟩ := List.mem_map.1 hx
 simp [nkP, nkTs]
 omega

theorem size_tks (l : List Tk) : allSize 8 (tks l) = true := allSize_map (enc := tk) (fun _ => rfl) l
theorem size_pts (l : List Pt) : allSize 3 (pts l) = true := allSize_map (enc := pt) (fun _ => rfl) l
theorem tks_take (l : List Tk) (j : Nat) : (tks l).take j = tks (l.take j) := by simp [tks]
theorem pts_take (l : List Pt) (j : Nat) : (pts l).take j = pts (l.take j) := by simp [pts]

def F9 (k : Nat) (l : List Pt) (m i : Nat) (V : AV) (j : Nat) : List (Nat × AV) := [(0, .fz k (pts l)), (1, .int .i64 (m : Nat)), (5, V), (6, .int .i64 (i : Nat)), (7, .ptr 1 0), (8, .int .i64 (j : Nat))]

theorem inner10 {Q : AX → Env → Heap → Prop} (k : Nat) (l : List Pt) (m i : Nat) (x : Pt) (b : Int) (hix : pV (.iaddrS 3) [.fz k (pts l), .int .i64 (i : Nat)] = some (.fp (pt x).cells 0)) (hx : x.ts.length ≤ 17592186044416) (hb1 : 1 ≤ b) (hb2 : b ≤ 64) (V : AV) (O : Option Blk) (hO : Cln O) (hV : ∀ p : Nat → Nat, p 0 = 0 → Ren p 3 V V) (P : Int)
  (hK : VC fs ms 0 false (.loop L_escapementlaw10_made_1) (ek 5 (F9 k l m i V (nkTs b x.ts).length)) (H3 O (some (.cells [.int .i64 P, .int .i64 b, grV 2 (nkTs b x.ts).length] true 0)) (grO 8 (tks (nkTs b x.ts)) (nkTs b x.ts).length)) Q) :
  VC fs ms 0 false (.loop L_escapementlaw10_made_1) (ek 5 (F9 k l m i V 0)) (H3 O (some (.cells [.int .i64 P, .int .i64 b, grV 2 0] true 0)) (grO 8 (tks (nkTs b x.ts)) 0)) Q := by
 have hN : (nkTs b x.ts).length = min 4 x.ts.length := by simp [nkTs]
 refine for_rowL 0 5 (nkTs b x.ts).length (fun _ => True) (F9 k l m i V) (fun j => H3 O (some (.cells [.int .i64 P, .int .i64 b, grV 2 j] true 0)) (grO 8 (tks (nkTs b x.ts)) j)) ?_ (fun _ => hK) trivial
 clear hK
 intro j hj _
 have hjl : j < x.ts.length := by omega
 have hj4 : j < 4 := by omega
 have hT : (nkTs b x.ts).take (j + 1) = (nkTs b x.ts).take j ++ [n9 b x.ts[j]] := by
  rw [take_next hj]
  simp [nkTs]
 have hidx := idx_tk (k := x.k) hjl
 have hin := n9_in b x.ts[j] hb1
 have hleT : j < (nkTs b x.ts).length := hj
 have hclT := cl_tks (nkTs b x.ts)
 have hszT := size_tks (nkTs b x.ts)
 have htk : ∀ n, (tks (nkTs b x.ts)).take n = tks ((nkTs b x.ts).take n) := fun n => tks_take _ n
 generalize x.ts[j] = t at *
 have hm : n9 b t = ⟨n9p t, n9d t, n9w t, 0, n9b t, n9c t, if n9c t > 0 then n9e b t else 0, if n9c t > 0 then n9f b t else 0⟩ := rfl
 have b1 : IntKind.i64.wrap (1 + bring t.p 48) = n9p t := IntWalk.i64_in _ (by show _ ≤ n9p t ∧ n9p t ≤ _; omega)
 have b2 : IntKind.i64.wrap (1 + bring t.d (n9p t)) = n9d t := IntWalk.i64_in _ (by show _ ≤ n9d t ∧ n9d t ≤ _; omega)
 have b3 : IntKind.i64.wrap (1 + bring t.w (n9d t)) = n9w t := IntWalk.i64_in _ (by show _ ≤ n9w t ∧ n9w t ≤ _; omega)
 have b4 : IntKind.i64.wrap (n9w t + 1) = n9w t + 1 := IntWalk.i64_in _ (by omega)
 have b5 : bring t.b (n9w t + 1) = n9b t := rfl
 have b6 : bring t.c 5 = n9c t := rfl
 have b7 : IntKind.i64.wrap (1 + bring t.e (min b (n9w t))) = n9e b t := IntWalk.i64_in _ (by show _ ≤ n9e b t ∧ n9e b t ≤ _; omega)
 have b8 : IntKind.i64.wrap ((n9w t).tdiv (n9e b t)) = n9w t / n9e b t := by
  rw [Int.tdiv_eq_ediv_of_nonneg (by omega)]
  have := Int.ediv_le_self (b := n9e b t) (show 0 ≤ n9w t by omega)
  exact IntWalk.i64_in _ (by omega)
 have hmx : n9f b t ≤ 64 := by
  have := Int.ediv_le_self (b := n9e b t) (show 0 ≤ n9w t by omega)
  omega
 have b9 : IntKind.i64.wrap (1 + bring t.f (n9w t / n9e b t)) = n9f b t := IntWalk.i64_in _ (by show _ ≤ n9f b t ∧ n9f b t ≤ _; omega)
 have hq2 := hin.2.2.2.2.2.2.2
 have hq3 : n9w t / n9e b t ≤ 64 := by
  have := Int.ediv_le_self (b := n9e b t) (show 0 ≤ n9w t by omega)
  omega
 generalize n9p t = tp at *
 generalize n9d t = td at *
 generalize n9w t = tw at *
 generalize n9b t = tb at *
 generalize n9c t = tc at *
 generalize n9e b t = te at *
 generalize n9f b t = tf at *
 generalize tw / te = tq at *
 generalize hL : nkTs b x.ts = L at *
 conv => whnf
 refine ⟨_, hix, ?_⟩
 conv => whnf
 refine brt (by rw [len_tks]; simp; omega) (fun hc => ?_)
 (try rw [hc])
 conv => whnf
 refine brt (by simp; omega) (fun hc => ?_)
 (try rw [hc])
 conv => whnf
 refine ⟨_, hix, ?_⟩
 conv => whnf
 refine ⟨_, hidx, ?_⟩
 conv => whnf
 refine vd_pure (bring_c _ 48 (by omega) (by omega)) ?_
 conv => whnf
 rw [b1]
 conv => whnf
 refine vd_pure (bring_c _ tp (by omega) (by omega)) ?_
 conv => whnf
 rw [b2]
 conv => whnf
 refine vd_pure (bring_c _ td (by omega) (by omega)) ?_
 conv => whnf
 rw [b3]
 conv => whnf
 rw [b4]
 conv => whnf
 refine vd_pure (bring_c _ (tw + 1) (by omega) (by omega)) ?_
 conv => whnf
 rw [b5]
 conv => whnf
 refine vd_pure (bring_c _ 5 (by omega) (by omega)) ?_
 conv => whnf
 rw [b6]
 conv => whnf
 by_cases hc0 : tc > 0
 ·refine brt (by simp; omega) (fun hc => ?_)
  (try rw [hc])
  conv => whnf
  rw [show (bif decide (tw < b) then tw else b) = min b tw by (by_cases h : tw < b <;> simp [h] <;> omega)]
  refine vd_pure (bring_c _ (min b tw) (by omega) (by omega)) ?_
  conv => whnf
  rw [b7]
  conv => whnf
  refine ⟨_, quo_val _ _ (by omega), ?_⟩
  conv => whnf
  rw [b8]
  conv => whnf
  refine vd_pure (bring_c _ tq (by omega) (by omega)) ?_
  conv => whnf
  rw [b9]
  conv => whnf
  rw [if_pos hc0, if_pos hc0] at hm
  cases j with
  | zero =>
   refine ⟨_, _, app_nilsS (cs := (tk ⟨tp, td, tw, 0, tb, tc, te, tf⟩).cells) (by omega) rfl rfl, ?_⟩
   conv => whnf
   refine ⟨trivial, fun b => bif Nat.beq b 2 then 6 else b, gc3 _ ?_ (cln_ren hO rfl) (one_blk ⟨_, rfl, ?_⟩) (one_blk ⟨_, rfl, renB_cl ?_ (flat_cl (cl_take hclT _))⟩) (by decide) (by decide) (by decide) (by intro b hb; omega) (by omega)⟩
   ·exact ⟨⟨_, rfl, .cl (by simp [AV.cl, cl_pts])⟩, ⟨_, rfl, .cl rfl⟩, ⟨_, rfl, hV _ rfl⟩, ⟨_, rfl, .cl rfl⟩, ⟨_, rfl, .ptr (by omega)⟩, ⟨_, inc_slot (j := 0) (by omega), .cl rfl⟩, trivial⟩
   ·exact renB_3 (.cl rfl) (.cl rfl) (.sl (by omega))
   ·show (tk ⟨tp, td, tw, 0, tb, tc, te, tf⟩).cells = flatCells ((tks L).take (0 + 1))
    rw [htk, hT, hm]
    rfl
  | succ j =>
   have hle : j + 1 ≤ L.length := by omega
   refine ⟨_, _, app_openS (cs := (tk ⟨tp, td, tw, 0, tb, tc, te, tf⟩).cells) (vs := flatCells ((tks L).take (j + 1))) rfl (by rw [flat_size (size_take hszT _), List.length_take, len_tks, Nat.min_eq_left hle]) (by omega) (by omega) rfl rfl, ?_⟩
   conv => whnf
   refine ⟨trivial, fun b => bif Nat.beq b 2 then 6 else b, gc3 _ ?_ (cln_ren hO rfl) (one_blk ⟨_, rfl, ?_⟩) (one_blk ⟨_, rfl, renB_cl ?_ (flat_cl (cl_take hclT _))⟩) (by decide) (by decide) (by decide) (by intro b hb; omega) (by omega)⟩
   ·exact ⟨⟨_, rfl, .cl (by simp [AV.cl, cl_pts])⟩, ⟨_, rfl, .cl rfl⟩, ⟨_, rfl, hV _ rfl⟩, ⟨_, rfl, .cl rfl⟩, ⟨_, rfl, .ptr (by omega)⟩, ⟨_, inc_slot (j := j + 1) (by omega), .cl rfl⟩, trivial⟩
   ·exact renB_3 (.cl rfl) (.cl rfl) (.sl (by omega))
   ·show flatCells ((tks L).take (j + 1)) ++ (tk ⟨tp, td, tw, 0, tb, tc, te, tf⟩).cells = flatCells ((tks L).take (j + 1 + 1))
    rw [htk, htk, hT, hm, tks, tks, List.map_append, flat_app]
    rfl
 ·refine brf (by simp; omega) (fun hc => ?_)
  (try rw [hc])
  conv => whnf
  rw [if_neg hc0, if_neg hc0] at hm
  cases j with
  | zero =>
   refine ⟨_, _, app_nilsS (cs := (tk ⟨tp, td, tw, 0, tb, tc, 0, 0⟩).cells) (by omega) rfl rfl, ?_⟩
   conv => whnf
   refine ⟨trivial, fun b => bif Nat.beq b 2 then 6 else b, gc3 _ ?_ (cln_ren hO rfl) (one_blk ⟨_, rfl, ?_⟩) (one_blk ⟨_, rfl, renB_cl ?_ (flat_cl (cl_take hclT _))⟩) (by decide) (by decide) (by decide) (by intro b hb; omega) (by omega)⟩
   ·exact ⟨⟨_, rfl, .cl (by simp [AV.cl, cl_pts])⟩, ⟨_, rfl, .cl rfl⟩, ⟨_, rfl, hV _ rfl⟩, ⟨_, rfl, .cl rfl⟩, ⟨_, rfl, .ptr (by omega)⟩, ⟨_, inc_slot (j := 0) (by omega), .cl rfl⟩, trivial⟩
   ·exact renB_3 (.cl rfl) (.cl rfl) (.sl (by omega))
   ·show (tk ⟨tp, td, tw, 0, tb, tc, 0, 0⟩).cells = flatCells ((tks L).take (0 + 1))
    rw [htk, hT, hm]
    rfl
  | succ j =>
   have hle : j + 1 ≤ L.length := by omega
   refine ⟨_, _, app_openS (cs := (tk ⟨tp, td, tw, 0, tb, tc, 0, 0⟩).cells) (vs := flatCells ((tks L).take (j + 1))) rfl (by rw [flat_size (size_take hszT _), List.length_take, len_tks, Nat.min_eq_left hle]) (by omega) (by omega) rfl rfl, ?_⟩
   conv => whnf
   refine ⟨trivial, fun b => bif Nat.beq b 2 then 6 else b, gc3 _ ?_ (cln_ren hO rfl) (one_blk ⟨_, rfl, ?_⟩) (one_blk ⟨_, rfl, renB_cl ?_ (flat_cl (cl_take hclT _))⟩) (by decide) (by decide) (by decide) (by intro b hb; omega) (by omega)⟩
   ·exact ⟨⟨_, rfl, .cl (by simp [AV.cl, cl_pts])⟩, ⟨_, rfl, .cl rfl⟩, ⟨_, rfl, hV _ rfl⟩, ⟨_, rfl, .cl rfl⟩, ⟨_, rfl, .ptr (by omega)⟩, ⟨_, inc_slot (j := j + 1) (by omega), .cl rfl⟩, trivial⟩
   ·exact renB_3 (.cl rfl) (.cl rfl) (.sl (by omega))
   ·show flatCells ((tks L).take (j + 1)) ++ (tk ⟨tp, td, tw, 0, tb, tc, 0, 0⟩).cells = flatCells ((tks L).take (j + 1 + 1))
    rw [htk, htk, hT, hm, tks, tks, List.map_append, flat_app]
    rfl
end Ir
end Go.Proofs.Ytlndlbngfgaoeaa
