/-
  Tune: what servers share.
-/
import Derived.Test.YtlndlbngfgaoeaaZA
import Derived.Test.YtlndlbngfgaoeaaVsGrow
set_option maxRecDepth 100000
set_option linter.unusedSimpArgs false
set_option linter.unusedVariables false
namespace Go.Proofs.Ytlndlbngfgaoeaa
open Go Ads
namespace Ir

def topS (a b t d : Int) : Int := a * d + t * b
def gS (a b t d : Int) : Int := (Nat.gcd (topS a b t d).toNat (b * d).toNat : Nat)
def fplus (p : Int × Int) (t d : Int) : Int × Int := (topS p.1 p.2 t d / gS p.1 p.2 t d, p.2 * d / gS p.1 p.2 t d)
theorem mul_le64 {a b A B : Int} (ha : 0 ≤ a) (hb : 0 ≤ b) (hA : a ≤ A) (hB : b ≤ B) : 0 ≤ a * b ∧ a * b ≤ A * B :=
 ⟨Int.mul_nonneg ha hb, Int.mul_le_mul hA hB hb (by omega)⟩
theorem pos_mul {a b : Int} (ha : 1 ≤ a) (hb : 1 ≤ b) : 1 ≤ a * b := by
 have := Int.mul_pos (show 0 < a by omega) (show 0 < b by omega)
 omega

theorem plus_c (a b t d : Int) (ha : 0 ≤ a ∧ a ≤ 67108864) (hb : 1 ≤ b ∧ b ≤ 262144) (ht : 1 ≤ t ∧ t ≤ 64) (hd : 1 ≤ d ∧ d ≤ 64) :
  PC fs ms f_share_fraction_int_plus [.agg [.int .i64 a, .int .i64 b], .agg [.int .i64 t, .int .i64 d]] (.agg [.int .i64 (fplus (a, b) t d).1, .int .i64 (fplus (a, b) t d).2]) := by
 refine pc_of rfl rfl ?_
 refine vd_start (af := C_share_fraction_int_plus) false rfl (Nat.le_of_ble_eq_true rfl) ?_
 generalize hQ : (fun (v : AV) (_ : Heap) => v = .agg [.int .i64 (fplus (a, b) t d).1, .int .i64 (fplus (a, b) t d).2]) = Q
 have m1 := mul_le64 ha.1 (show 0 ≤ d by omega) ha.2 hd.2
 have m2 := mul_le64 (show 0 ≤ t by omega) (show 0 ≤ b by omega) ht.2 hb.2
 have m3 := mul_le64 (show 0 ≤ b by omega) (show 0 ≤ d by omega) hb.2 hd.2
 have m4 := pos_mul hb.1 hd.1
 have w1 : IntKind.i64.wrap (a * d) = a * d := IntWalk.i64_in _ (by omega)
 have w2 : IntKind.i64.wrap (t * b) = t * b := IntWalk.i64_in _ (by omega)
 have w3 : IntKind.i64.wrap (b * d) = b * d := IntWalk.i64_in _ (by omega)
 have w4 : IntKind.i64.wrap (a * d + t * b) = topS a b t d := IntWalk.i64_in _ (by omega)
 have hT : 0 ≤ topS a b t d ∧ topS a b t d ≤ 1099511627776 := by unfold topS; omega
 have hg : gcdS (topS a b t d) (b * d) = (gS a b t d, 0) := by
  unfold gcdS
  rw [(isTick_iff _).2 hT, (isTick_iff _).2 ⟨by omega, by omega⟩]
  rfl
 have hgp : 1 ≤ gS a b t d := by
  have : 0 < Nat.gcd (topS a b t d).toNat (b * d).toNat := Nat.gcd_pos_of_pos_right _ (by omega)
  unfold gS
  omega
 have hF : fplus (a, b) t d = (topS a b t d / gS a b t d, b * d / gS a b t d) := rfl
 have hc := gcd_c (topS a b t d) (b * d)
 rw [hg] at hc
 conv => whnf
 rw [w1, w2, w3, w4]
 refine vd_pure (v := .tup [.int .i64 (gS a b t d), .int .i64 0]) hc ?_
 conv => whnf
 refine ⟨_, quo_val _ _ (by omega), ?_⟩
 conv => whnf
 refine ⟨_, quo_val _ _ (by omega), ?_⟩
 conv => whnf
 subst hQ
 rw [hF, Int.tdiv_eq_ediv_of_nonneg hT.1, Int.tdiv_eq_ediv_of_nonneg m3.1]
 have e1 := Int.ediv_nonneg hT.1 (show 0 ≤ gS a b t d by omega)
 have e2 := Int.ediv_le_self (gS a b t d) hT.1
 have e3 := Int.ediv_nonneg m3.1 (show 0 ≤ gS a b t d by omega)
 have e4 := Int.ediv_le_self (gS a b t d) m3.1
 rw [IntWalk.i64_in _ (by omega), IntWalk.i64_in _ (by omega)]
 rfl

def bdB : Nat → Int
 | 0 => 1
 | j + 1 => bdB j * 64
def bdA : Nat → Int
 | 0 => 0
 | j + 1 => bdA j * 64 + 64 * bdB j
theorem bd_small {j : Nat} (h : j ≤ 3) : bdA j ≤ 67108864 ∧ bdB j ≤ 262144 := by
 rcases j with _ | _ | _ | _ | j
 ·decide
 ·decide
 ·decide
 ·decide
 ·omega
def shareOk (x : Pt) : Bool := decide (x.per ≤ 64) && decide (1 ≤ x.bud) && decide (x.bud ≤ x.per)
theorem shareOk_iff (x : Pt) : shareOk x = true ↔ x.per ≤ 64 ∧ 1 ≤ x.bud ∧ x.bud ≤ x.per := by simp [shareOk, and_assoc]
theorem shareOk_no {x : Pt} (h : ¬ (x.per ≤ 64 ∧ 1 ≤ x.bud ∧ x.bud ≤ x.per)) : shareOk x = false := by rw [← Bool.not_eq_true, shareOk_iff]; exact h
def shareBad (L : List Pt) (j : Nat) : Bool := match L[j]? with
 | some x => !shareOk x
 | none => false
theorem shareBad_eq {L : List Pt} {j : Nat} (h : j < L.length) : shareBad L j = !shareOk L[j] := by rw [shareBad, List.getElem?_eq_getElem h]
def accS (L : List Pt) : Nat → Int × Int
 | 0 => (0, 1)
 | j + 1 => match L[j]? with
  | some x => fplus (accS L j) x.bud x.per
  | none => accS L j
theorem accS_next {L : List Pt} {j : Nat} (h : j < L.length) : accS L (j + 1) = fplus (accS L j) L[j].bud L[j].per := by rw [accS, List.getElem?_eq_getElem h]
def AccIn (p : Int × Int) (j : Nat) : Prop := 0 ≤ p.1 ∧ p.1 ≤ bdA j ∧ 1 ≤ p.2 ∧ p.2 ≤ bdB j
theorem bdB_pos : ∀ j, 1 ≤ bdB j
 | 0 => by decide
 | j + 1 => by have := bdB_pos j; simp only [bdB]; omega
theorem acc_next {p : Int × Int} {j : Nat} {t d : Int} (h : AccIn p j) (ht : 1 ≤ t ∧ t ≤ 64) (hd : 1 ≤ d ∧ d ≤ 64) : AccIn (fplus p t d) (j + 1) := by
 obtain ⟨a, b⟩ := p
 obtain ⟨h1, h2, h3, h4⟩ := h
 simp only at h1 h2 h3 h4
 have m1 := mul_le64 h1 (show 0 ≤ d by omega) h2 hd.2
 have m2 := mul_le64 (show 0 ≤ t by omega) (show 0 ≤ b by omega) ht.2 h4
 have m3 := mul_le64 (show 0 ≤ b by omega) (show 0 ≤ d by omega) h4 hd.2
 have m4 := pos_mul h3 hd.1
 have hT : 0 ≤ topS a b t d ∧ topS a b t d ≤ bdA (j + 1) := by unfold topS; simp only [bdA]; omega
 have hgp : 0 < Nat.gcd (topS a b t d).toNat (b * d).toNat := Nat.gcd_pos_of_pos_right _ (by omega)
 have hgl : Nat.gcd (topS a b t d).toNat (b * d).toNat ≤ (b * d).toNat := Nat.gcd_le_right _ (by omega)
 have hg : gS a b t d = (Nat.gcd (topS a b t d).toNat (b * d).toNat : Nat) := rfl
 have hg1 : 1 ≤ gS a b t d := by omega
 have e2 := Int.ediv_le_self (gS a b t d) hT.1
 have e4 := Int.ediv_le_self (gS a b t d) m3.1
 refine ⟨Int.ediv_nonneg hT.1 (show 0 ≤ gS a b t d by omega), by show topS a b t d / gS a b t d ≤ _; omega, ?_, by show b * d / gS a b t d ≤ _; simp only [bdB]; omega⟩
 show 1 ≤ b * d / gS a b t d
 have := Int.le_ediv_of_mul_le (a := 1) (b := b * d) (c := gS a b t d) (by omega) (by omega)
 exact this
theorem acc_in {L : List Pt} : ∀ j, j ≤ L.length → (∀ i, i < j → shareBad L i = false) → AccIn (accS L j) j
 | 0, _, _ => by simp [AccIn, accS, bdA, bdB]
 | j + 1, h, hb => by
  have hj := hb j (by omega)
  rw [shareBad_eq (by omega), Bool.not_eq_false', shareOk_iff] at hj
  rw [accS_next (by omega)]
  exact acc_next (acc_in j (by omega) fun i hi => hb i (by omega)) ⟨by omega, by omega⟩ ⟨by omega, by omega⟩

def sumR (L : List Pt) : (Int × Int) × Bool := if 4 < L.length then ((0, 1), false) else match firstBad (shareBad L) 0 L.length with
 | none => (accS L L.length, true)
 | some u => (accS L u, false)
def frac (p : Int × Int) : AV := .agg [.int .i64 p.1, .int .i64 p.2]
def sumE (k : Nat) (L : List Pt) (j : Nat) : List (Nat × AV) := [(2, .ptr 0 0), (4, .ptr 1 0), (12, .fz k (pts L)), (13, .int .i64 (L.length : Nat)), (14, .int .i64 ((j : Nat) : Int))]
def sumH (p : Int × Int) : Heap := H3 (some (.cells [.int .i64 0, .int .i64 0] true 0)) (some (.cells [.int .i64 p.1, .int .i64 p.2] true 0)) none

theorem ren_sum {k j : Nat} {L : List Pt} {e1 : Env} {h1 : Heap} {q : Int × Int} (e2 : Tr.get e1 2 = some (.ptr 0 0)) (e4 : Tr.get e1 4 = some (.ptr 1 0)) (e12 : Tr.get e1 12 = some (.fz k (pts L))) (e13 : Tr.get e1 13 = some (.int .i64 (L.length : Nat)))
  (e14 : Tr.get e1 14 = some (.int .i64 ((j : Nat) : Int))) (g0 : h1.get 0 = some (.cells [.int .i64 0, .int .i64 0] true 0)) (g1 : h1.get 1 = some (.cells [.int .i64 q.1, .int .i64 q.2] true 0)) : GC 0 id e1 h1 (ek 5 (sumE k L j)) (sumH q) :=
 gc3 id ⟨⟨_, e2, .ptr (by omega)⟩, ⟨_, e4, .ptr (by omega)⟩, ⟨_, e12, .cl (by simp [AV.cl, cl_pts])⟩, ⟨_, e13, .cl rfl⟩, ⟨_, e14, .cl rfl⟩, trivial⟩ (one_blk ⟨_, g0, renB_cl rfl rfl⟩) (one_blk ⟨_, g1, renB_cl rfl rfl⟩) no_blk (by decide) (by decide) (by decide) (by intro b hb; omega) (by omega)

theorem shareSum_c (k : Nat) (L : List Pt) (hs : Small L) : PC fs ms f_share_sum [.fz k (pts L)] (.tup [frac (sumR L).1, .bool (sumR L).2]) := by
 refine pc_of (by simp [clL, AV.cl, cl_pts]) rfl ?_
 refine vd_start (af := C_share_sum) false rfl (Nat.le_of_ble_eq_true rfl) ?_
 generalize hQ : (fun (v : AV) (_ : Heap) => v = .tup [frac (sumR L).1, .bool (sumR L).2]) = Q
 conv => whnf
 rw [len_pts]
 by_cases h4 : 4 < L.length
 ·refine brt (by simp; omega) (fun hc => ?_)
  (try rw [hc])
  conv => whnf
  subst hQ
  rw [sumR, if_pos h4]
  rfl
 refine brf (by simp; omega) (fun hc => ?_)
 (try rw [hc])
 conv => whnf
 have hS : sumR L = match firstBad (shareBad L) 0 L.length with | none => (accS L L.length, true) | some u => (accS L u, false) := by rw [sumR, if_neg h4]
 have hbody : ∀ (K : AX → Env → Heap → Prop) j, j < L.length → (∀ i, i < j → shareBad L i = false) → (shareBad L j = false → ∀ e1 h1, GC 0 id e1 h1 (ek 5 (sumE k L (j + 1))) (sumH (accS L (j + 1))) → K .normal e1 h1) → (shareBad L j = true → ∀ e1 h1, resAllV e1 h1 C_share_sum.results = some [frac (accS L j), .bool false] → K .ret e1 h1) →
   vpC fs ms 0 false false L_share_sum_0 (ek 5 (sumE k L j)) (sumH (accS L j)) K := by
  intro K j hj hno k1 k2
  have hin := acc_in j (by omega) hno
  have hbe := shareBad_eq hj
  have hnx := accS_next hj
  have hix := idx_pt (k := k) hj
  have hbd := bd_small (j := j) (by omega)
  generalize accS L j = q at *
  generalize accS L (j + 1) = q' at *
  generalize L[j] = x at *
  obtain ⟨qa, qb⟩ := q
  show vpC fs ms 0 false false _ (ek 5 [(2, .ptr 0 0), (4, .ptr 1 0), (12, .fz k (pts L)), (13, .int .i64 (L.length : Nat)), (14, .int .i64 ((j : Nat) : Int))]) ⟨3, .node (.node .nil (some (.cells [.int .i64 qa, .int .i64 qb] true 0)) .nil) (some (.cells [.int .i64 0, .int .i64 0] true 0)) (.node .nil none .nil)⟩ _
  conv => whnf
  refine brt (by simp; omega) (fun hc => ?_)
  (try rw [hc])
  conv => whnf
  refine ⟨_, hix, ?_⟩
  conv => whnf
  by_cases c1 : 64 < x.per
  ·refine brt (by simpa using c1) (fun hc => ?_)
   (try rw [hc])
   conv => whnf
   refine k2 (by rw [hbe, shareOk_no (by omega)]; rfl) _ _ rfl
  refine brf (by simpa using c1) (fun hc => ?_)
  (try rw [hc])
  conv => whnf
  by_cases c2 : x.bud < 1
  ·refine brt (by simpa using c2) (fun hc => ?_)
   (try rw [hc])
   conv => whnf
   refine k2 (by rw [hbe, shareOk_no (by omega)]; rfl) _ _ rfl
  refine brf (by simpa using c2) (fun hc => ?_)
  (try rw [hc])
  conv => whnf
  by_cases c3 : x.per < x.bud
  ·refine brt (by simpa using c3) (fun hc => ?_)
   (try rw [hc])
   conv => whnf
   refine k2 (by rw [hbe, shareOk_no (by omega)]; rfl) _ _ rfl
  refine brf (by simpa using c3) (fun hc => ?_)
  (try rw [hc])
  conv => whnf
  obtain ⟨i1, i2, i3, i4⟩ := hin
  simp only at i1 i2 i3 i4
  refine vd_pure (plus_c qa qb x.bud x.per (by omega) (by omega) (by omega) (by omega)) ?_
  conv => whnf
  refine k1 (by rw [hbe, (shareOk_iff x).2 (by omega)]; rfl) _ _ (ren_sum rfl rfl rfl rfl (inc_slot (by omega)) rfl ?_)
  rw [hnx]
  rfl
 refine vc_gc (ren_sum (q := accS L 0) (j := 0) rfl rfl rfl ((show _ = some (AV.int .i64 ((pts L).length : Nat)) from rfl).trans (by rw [len_pts])) rfl rfl rfl) ?_
 cases hfb : firstBad (shareBad L) 0 L.length with
 | none =>
  rw [hfb] at hS
  have hno : ∀ j, j < L.length → shareBad L j = false := fun j hj => by have := firstBad_none hfb j hj; rwa [Nat.zero_add] at this
  refine for_rowL 0 5 L.length (fun _ => True) (sumE k L) (fun j => sumH (accS L j)) (fun j hj _ => hbody _ j hj (fun i hi => hno i (by omega)) (fun _ e1 h1 hg => ⟨trivial, id, hg⟩) (fun he => by rw [hno j hj] at he; cases he)) (fun _ => ?_) trivial
  refine vc_loop (z := false) ?_
  show vpC fs ms 0 false false _ (ek 5 [(2, .ptr 0 0), (4, .ptr 1 0), (12, .fz k (pts L)), (13, .int .i64 (L.length : Nat)), (14, .int .i64 ((L.length : Nat) : Int))]) ⟨3, .node (.node .nil (some (.cells [.int .i64 (accS L L.length).1, .int .i64 (accS L L.length).2] true 0)) .nil) (some (.cells [.int .i64 0, .int .i64 0] true 0)) (.node .nil none .nil)⟩ _
  generalize accS L L.length = q at *
  obtain ⟨qa, qb⟩ := q
  conv => whnf
  refine brf (by simp) (fun hc => ?_)
  (try rw [hc])
  conv => whnf
  subst hQ
  rw [hS]
  rfl
 | some u =>
  rw [hfb] at hS
  obtain ⟨u1, u2, u3, u4⟩ := firstBad_some hfb
  refine for_rowL 0 5 u (fun _ => True) (sumE k L) (fun j => sumH (accS L j)) (fun j hj _ => hbody _ j (by omega) (fun i hi => u4 i (by omega) (by omega)) (fun _ e1 h1 hg => ⟨trivial, id, hg⟩) (fun he => by rw [u4 j (by omega) (by omega)] at he; cases he)) (fun _ => ?_) trivial
  refine vc_loop (z := false) (hbody _ u (by omega) (fun i hi => u4 i (by omega) (by omega)) (fun he => by rw [u3] at he; cases he) (fun _ e1 h1 hr => ?_))
  show endV C_share_sum.results Q .ret e1 h1
  subst hQ
  simp only [endV, hr]
  rw [hS]

theorem sumR_in {L : List Pt} (h : (sumR L).2 = true) : 0 ≤ (sumR L).1.1 ∧ (sumR L).1.1 ≤ 67108864 ∧ 1 ≤ (sumR L).1.2 ∧ (sumR L).1.2 ≤ 16777216 := by
 unfold sumR at h ⊢
 split at h
 ·simp at h
 ·rename_i h4
  rw [if_neg h4]
  cases hfb : firstBad (shareBad L) 0 L.length with
  | some u => rw [hfb] at h; simp at h
  | none =>
   have hin := acc_in (L := L) L.length (Nat.le_refl _) (fun i hi => by have := firstBad_none hfb i hi; rwa [Nat.zero_add] at this)
   have hb : bdA L.length ≤ 67108864 ∧ bdB L.length ≤ 16777216 := by
    generalize L.length = n at h4
    rcases n with _ | _ | _ | _ | _ | n
    ·decide
    ·decide
    ·decide
    ·decide
    ·decide
    ·omega
   obtain ⟨h1, h2, h3, h5⟩ := hin
   show 0 ≤ (accS L L.length).1 ∧ (accS L L.length).1 ≤ _ ∧ 1 ≤ (accS L L.length).2 ∧ (accS L L.length).2 ≤ _
   omega

def SumS (L : List Pt) : Int × Int × Int := if (sumR L).2 = true then ((sumR L).1.1, (sumR L).1.2, 0) else (0, 0, 2)
def tripI (p : Int × Int × Int) : AV := .tup [.int .i64 p.1, .int .i64 p.2.1, .int .i64 p.2.2]
theorem shareSum3_c (k : Nat) (L : List Pt) (hs : Small L) : PC fs ms f_share_Sum [.fz k (pts L)] (tripI (SumS L)) := by
 refine pc_of (by simp [clL, AV.cl, cl_pts]) rfl ?_
 refine vd_start (af := C_share_Sum) false rfl (Nat.le_of_ble_eq_true rfl) ?_
 generalize hQ : (fun (v : AV) (_ : Heap) => v = tripI (SumS L)) = Q
 have hc := shareSum_c k L hs
 unfold SumS at hQ
 generalize sumR L = q at *
 obtain ⟨⟨qa, qb⟩, o⟩ := q
 conv => whnf
 refine vd_pure (v := .tup [.agg [.int .i64 qa, .int .i64 qb], .bool o]) hc ?_
 conv => whnf
 cases o with
 | false =>
  conv => whnf
  subst hQ
  rfl
 | true =>
  conv => whnf
  subst hQ
  rfl

def LeftS (L : List Pt) : Int × Int × Int := match SumS L with
 | (a, b, e) => if e ≠ 0 then (0, 0, e) else if b < a then (0, 0, 120) else if a = b then (0, 1, 0) else (b - a, b, 0)
theorem left_c (k : Nat) (L : List Pt) (hs : Small L) : PC fs ms f_tune_Left [.fz k (pts L)] (tripI (LeftS L)) := by
 refine pc_of (by simp [clL, AV.cl, cl_pts]) rfl ?_
 refine vd_start (af := C_tune_Left) false rfl (Nat.le_of_ble_eq_true rfl) ?_
 generalize hQ : (fun (v : AV) (_ : Heap) => v = tripI (LeftS L)) = Q
 have hc := shareSum3_c k L hs
 have hin : SumS L = (0, 0, 2) ∨ (0 ≤ (SumS L).1 ∧ (SumS L).1 ≤ 67108864 ∧ 1 ≤ (SumS L).2.1 ∧ (SumS L).2.1 ≤ 16777216 ∧ (SumS L).2.2 = 0) := by
  unfold SumS
  by_cases h : (sumR L).2 = true
  ·rw [if_pos h]
   have := sumR_in h
   exact .inr ⟨this.1, this.2.1, this.2.2.1, this.2.2.2, rfl⟩
  ·rw [if_neg h]
   exact .inl rfl
 unfold LeftS at hQ
 generalize SumS L = q at *
 obtain ⟨a, b, e⟩ := q
 conv => whnf
 refine vd_pure (v := .tup [.int .i64 a, .int .i64 b, .int .i64 e]) hc ?_
 conv => whnf
 simp only [Prod.mk.injEq] at hin
 rcases hin with ⟨rfl, rfl, rfl⟩ | ⟨h1, h2, h3, h4, rfl⟩
 ·conv => whnf
  subst hQ
  rfl
 ·conv => whnf
  by_cases c1 : b < a
  ·refine brt (by simpa using c1) (fun hc => ?_)
   (try rw [hc])
   conv => whnf
   subst hQ
   show _ = tripI (if (0 : Int) ≠ 0 then _ else if b < a then _ else _)
   rw [if_neg (by omega), if_pos c1]
   rfl
  refine brf (by simpa using c1) (fun hc => ?_)
  (try rw [hc])
  conv => whnf
  by_cases c2 : a = b
  ·refine brt (by simpa using c2) (fun hc => ?_)
   (try rw [hc])
   conv => whnf
   subst hQ
   show _ = tripI (if (0 : Int) ≠ 0 then _ else if b < a then _ else if a = b then _ else _)
   rw [if_neg (by omega), if_neg c1, if_pos c2]
   rfl
  refine brf (by simpa using c2) (fun hc => ?_)
  (try rw [hc])
  conv => whnf
  subst hQ
  show _ = tripI (if (0 : Int) ≠ 0 then _ else if b < a then _ else if a = b then _ else _)
  rw [if_neg (by omega), if_neg c1, if_neg c2, IntWalk.i64_in _ (by omega)]
  rfl
end Ir
end Go.Proofs.Ytlndlbngfgaoeaa
