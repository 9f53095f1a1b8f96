/-
  TuneShares.
-/
import Derived.Test.YtlndlbngfgaoeaaVTunG
import Derived.Test.YtlndlbngfgaoeaaVTunW
set_option maxRecDepth 100000
set_option linter.unusedSimpArgs false
set_option linter.unusedVariables false
namespace Go.Proofs.Ytlndlbngfgaoeaa
open Go Ads
namespace Ir

theorem setPer_len {l : List Pt} {i : Nat} (h : i < l.length) (p : Int) : (setPer l i p).length = l.length := by rw [setPer_eq h]; simp
theorem setPer_per {l : List Pt} {i : Nat} (h : i < l.length) (p : Int) : (setPer l i p)[i]'(by rw [setPer_len h]; exact h) = ⟨p, l[i].bud, l[i].k, l[i].ts⟩ := by
 have : (setPer l i p)[i]? = some ⟨p, l[i].bud, l[i].k, l[i].ts⟩ := by rw [setPer_eq h, List.getElem?_set_self h]
 rw [List.getElem?_eq_getElem (by rw [setPer_len h]; exact h)] at this
 exact Option.some.inj this
theorem setPer_twice {l : List Pt} {i : Nat} (h : i < l.length) (p q : Int) : setPer (setPer l i p) i q = setPer l i q := by
 rw [setPer_eq (l := setPer l i p) (by rw [setPer_len h]; exact h), setPer_per h, setPer_eq h, setPer_eq h, List.set_set]
theorem needS_set {l : List Pt} {i : Nat} (h : i < l.length) (p : Int) : needS (setPer l i p) i p = needS l i p := by
 unfold needS
 rw [setPer_twice h]

theorem left_three (L : List Pt) : (SumS L = (0, 0, 2) ∧ LeftS L = (0, 0, 2)) ∨ ∃ a b, SumS L = (a, b, 0) ∧ 0 ≤ a ∧ a ≤ 67108864 ∧ 1 ≤ b ∧ b ≤ 16777216 ∧ ((b < a ∧ LeftS L = (0, 0, 120)) ∨ (a = b ∧ LeftS L = (0, 1, 0)) ∨ (a < b ∧ LeftS L = (b - a, b, 0))) := by
 unfold LeftS
 by_cases h : (sumR L).2 = true
 ·have hin := sumR_in h
  have hS : SumS L = ((sumR L).1.1, (sumR L).1.2, 0) := by rw [SumS, if_pos h]
  rw [hS]
  generalize (sumR L).1 = q at *
  obtain ⟨a, b⟩ := q
  simp only at hin
  refine .inr ⟨a, b, rfl, hin.1, hin.2.1, hin.2.2.1, hin.2.2.2, ?_⟩
  by_cases c1 : b < a
  ·exact .inl ⟨c1, by simp [c1]⟩
  by_cases c2 : a = b
  ·exact .inr (.inl ⟨c2, by simp [c1, c2]⟩)
  ·exact .inr (.inr ⟨by omega, by simp [c1, c2]⟩)
 ·have hS : SumS L = (0, 0, 2) := by rw [SumS, if_neg h]
  rw [hS]
  exact .inl ⟨rfl, rfl⟩

theorem best_one {L : List Pt} {i m : Nat} (hm : m ≤ 64) : (BestS L i m = (0, 0, 120) ∧ ∀ j, 1 ≤ j → j ≤ m → needS L i ((j : Nat) : Int) = 0) ∨
  ∃ j : Nat, 1 ≤ j ∧ j ≤ m ∧ BestS L i m = (((j : Nat) : Int), needS L i ((j : Nat) : Int), 0) ∧ 1 ≤ needS L i ((j : Nat) : Int) ∧ needS L i ((j : Nat) : Int) ≤ ((j : Nat) : Int) ∧ ∀ u, 1 ≤ u → u ≤ m → 0 < needS L i ((u : Nat) : Int) → needS L i ((j : Nat) : Int) * ((u : Nat) : Int) ≤ needS L i ((u : Nat) : Int) * ((j : Nat) : Int) := by
 unfold BestS
 rcases best_is L i m with ⟨hq, h1⟩ | ⟨j, j1, j2, hq, h1, h2⟩
 ·rw [hq]
  exact .inl ⟨rfl, h1⟩
 ·rw [hq]
  have := needS_in L i ((j : Nat) : Int)
  refine .inr ⟨j, j1, j2, ?_, by omega, this.2.2 (by omega), h2⟩
  rw [if_neg (by show ((j : Nat) : Int) ≠ 0; omega)]

theorem best_two (L : List Pt) (i u v : Nat) (huv : u ≤ v) (hv : v ≤ 64) :
  (BestS L i u = (0, 0, 120) ∧ (BestS L i v = (0, 0, 120) ∨ ∃ q m : Int, BestS L i v = (q, m, 0) ∧ 1 ≤ q ∧ q ≤ 64 ∧ 1 ≤ m ∧ m ≤ q)) ∨
  ∃ p n q m : Int, BestS L i u = (p, n, 0) ∧ BestS L i v = (q, m, 0) ∧ m * p ≤ n * q ∧ 1 ≤ p ∧ p ≤ (u : Nat) ∧ 1 ≤ n ∧ n ≤ p ∧ 1 ≤ q ∧ q ≤ 64 ∧ 1 ≤ m ∧ m ≤ q ∧ n = needS L i p := by
 rcases best_one (L := L) (i := i) (m := u) (by omega) with ⟨h1, h2⟩ | ⟨j, j1, j2, h1, h2, h3, h4⟩
 ·refine .inl ⟨h1, ?_⟩
  rcases best_one (L := L) (i := i) (m := v) hv with ⟨g1, g2⟩ | ⟨r, r1, r2, g1, g2, g3, g4⟩
  ·exact .inl g1
  ·exact .inr ⟨_, _, g1, by omega, by omega, g2, g3⟩
 ·rcases best_one (L := L) (i := i) (m := v) hv with ⟨g1, g2⟩ | ⟨r, r1, r2, g1, g2, g3, g4⟩
  ·rw [g2 j j1 (by omega)] at h2
   omega
  ·exact .inr ⟨_, _, _, _, h1, g1, g4 j j1 (by omega) (by omega), by omega, by omega, h2, h3, by omega, by omega, g2, g3, rfl⟩

def sndC : AC → AC
 | .seq _ b => b
 | c => c

theorem tuneShares_c (k0 : Nat) (l0 : List Pt) (hs0 : Small l0) (part m0 m1 : Int) : PC fs ms f_escapementlaw30_TuneShares [.fz k0 (pts l0), .int .i64 part, .agg [.int .i64 m0, .int .i64 m1]] (.bool true) := by
 refine pc_of (by simp [clL, AV.cl, cl_pts]) rfl ?_
 refine vd_begin (af := C_escapementlaw30_TuneShares) rfl (Nat.le_of_ble_eq_true rfl) ?_
 generalize hQ : (fun (v : AV) (_ : Heap) => v = .bool true) = Q
 conv => whnf
 refine vc_seq false ?_
 conv => whnf
 refine vc_frz [0] (i := 5) (v' := .fp [.int .i64 m0, .int .i64 m1] 0) rfl (.ptr' (by simp) rfl (.cons (.clean rfl) (.cons (.clean rfl) .nil))) ?_
 refine vc_to0 5 [(0, .fz k0 (pts l0)), (1, .int .i64 part), (5, .fp [.int .i64 m0, .int .i64 m1] 0)] ?_ ?_
 ·exact ⟨⟨_, rfl, .cl (by simp [AV.cl, cl_pts])⟩, ⟨_, rfl, .cl rfl⟩, ⟨_, rfl, .cl rfl⟩, trivial⟩
 have hl : (cutPs l0).length ≤ 6 := by simp [cutPs]; omega
 have hs : Small (cutPs l0) := by
  refine ⟨by omega, fun x hx => ?_⟩
  obtain ⟨y, -, rfl⟩ := List.mem_map.1 hx
  simp [cutP]; omega
 by_cases hne : (cutPs l0).length = 0
 ·have hL : cutPs l0 = [] := List.length_eq_zero_iff.1 hne
  have hc := cutParts_c k0 l0 hs0
  rw [hL] at hc hs
  have h1 := left_c 3 [] hs
  have h2 := shareSum3_c 3 [] hs
  refine vpC_sound (z := false) ?_
  conv => whnf
  refine vd_pure (v := .fz 3 []) hc ?_
  conv => whnf
  refine vd_pure (v := .tup [.int .i64 1, .int .i64 1, .int .i64 0]) h1 ?_
  conv => whnf
  refine vd_pure (v := .tup [.int .i64 0, .int .i64 1, .int .i64 0]) h2 ?_
  conv => whnf
  refine vd_pure (works30_c) ?_
  conv => whnf
  subst hQ
  rfl
 have hcut := cutParts_v k0 l0 hs0
 generalize cutPs l0 = L at *
 obtain ⟨n, hn⟩ : ∃ n, L.length = n + 1 := ⟨L.length - 1, by omega⟩
 have hcells : flatCells ((pts L).take (n + 1)) = flatCells (pts L) := by rw [← hn, ← len_pts L, List.take_length]
 have hcut : VD fs ms f_escapementlaw30_cutParts [.fz k0 (pts l0)] ⟨0, .nil⟩ (fun v g => v = .sl 0 0 (n + 1) (n + 1) true ∧ g = ⟨3, .node (.node .nil none .nil) (some (.cells (flatCells (pts L)) true 3)) (.node .nil none .nil)⟩) := by
  rw [hn] at hcut
  refine hcut.mono fun v g hv => ⟨hv.1, ?_⟩
  rw [hv.2, ← hcells]
  rfl
 have hclC : clL (flatCells (pts L)) = true := flat_cl (cl_pts L)
 have hfz : ∀ h : Heap, h.get 0 = some (.cells (flatCells (pts L)) true 3) → Frz (fun _ => True) h (.sl 0 0 (n + 1) (n + 1) true) (.fz 0 (pts L)) := fun h hh => frz_open (s := 3) trivial hh rfl (size_pts _) (by rw [len_pts, hn]) (cl_pts _)
 have hleft := left_c 0 L hs
 have hsum := shareSum3_c 0 L hs
 have hlen3 : (flatCells (pts L)).length = (n + 1) * 3 := by rw [flat_size (size_pts _), len_pts, hn]
 have hsp : ∀ i p, i < L.length → Heap.splice (flatCells (pts L)) (i * 3) [.int .i64 p] = flatCells (pts (setPer L i p)) := fun i p hi => splice_per hi p
 generalize flatCells (pts L) = C at *
 have hpart : ∃ i : Nat, bring part ((n + 1 : Nat) : Int) = ((i : Nat) : Int) ∧ i < L.length := by
  have h1 := Int.emod_nonneg part (show ((n + 1 : Nat) : Int) ≠ 0 by omega)
  have h2 := Int.emod_lt_of_pos part (show (0 : Int) < ((n + 1 : Nat) : Int) by omega)
  exact ⟨(bring part ((n + 1 : Nat) : Int)).toNat, by unfold bring; omega, by unfold bring; omega⟩
 obtain ⟨i, hi, hiL⟩ := hpart
 have hbp := bring_c part ((n + 1 : Nat) : Int) (by omega) (by omega)
 rw [hi] at hbp
 have hten : ∀ x : Int, ∃ u : Nat, bring x 10 = ((u : Nat) : Int) ∧ u < 10 := fun x => by
  have h1 := Int.emod_nonneg x (show (10 : Int) ≠ 0 by omega)
  have h2 := Int.emod_lt_of_pos x (show (0 : Int) < 10 by omega)
  exact ⟨(bring x 10).toNat, by unfold bring; omega, by unfold bring; omega⟩
 obtain ⟨u0, hu0, hu1⟩ := hten m0
 obtain ⟨v0, hv0, hv1⟩ := hten m1
 have hb0 := bring_c m0 10 (by omega) (by omega)
 have hb1 := bring_c m1 10 (by omega) (by omega)
 rw [hu0] at hb0
 rw [hv0] at hb1
 have hbest : ∀ m : Nat, 1 ≤ m → m ≤ 64 → PC fs ms f_tune_Best [.fz 0 (pts L), .int .i64 (i : Nat), .int .i64 (m : Nat)] (tripI (BestS L i m)) := fun m h1 h2 => best_c 0 L i m hs hiL rfl (by omega) h1 h2
 have htwo := best_two L i (min (u0 + 1) (v0 + 1)) (max (u0 + 1) (v0 + 1)) (by omega) (by omega)
 have hbu := hbest (min (u0 + 1) (v0 + 1)) (by omega) (by omega)
 have hbv := hbest (max (u0 + 1) (v0 + 1)) (by omega) (by omega)
 clear hbest hten
 have hmn : (bif decide (((v0 + 1 : Nat) : Int) < ((u0 + 1 : Nat) : Int)) then ((v0 + 1 : Nat) : Int) else ((u0 + 1 : Nat) : Int)) = ((min (u0 + 1) (v0 + 1) : Nat) : Int) := by
  by_cases h : ((v0 + 1 : Nat) : Int) < ((u0 + 1 : Nat) : Int)
  ·rw [decide_eq_true h, cond_true]; omega
  ·rw [decide_eq_false h, cond_false]; omega
 have hmx : (bif decide (((u0 + 1 : Nat) : Int) < ((v0 + 1 : Nat) : Int)) then ((v0 + 1 : Nat) : Int) else ((u0 + 1 : Nat) : Int)) = ((max (u0 + 1) (v0 + 1) : Nat) : Int) := by
  by_cases h : ((u0 + 1 : Nat) : Int) < ((v0 + 1 : Nat) : Int)
  ·rw [decide_eq_true h, cond_true]; omega
  ·rw [decide_eq_false h, cond_false]; omega
 have w0 : IntKind.i64.wrap (1 + ((u0 : Nat) : Int)) = ((u0 + 1 : Nat) : Int) := by rw [IntWalk.i64_in _ (by omega)]; omega
 have w1 : IntKind.i64.wrap (1 + ((v0 : Nat) : Int)) = ((v0 + 1 : Nat) : Int) := by rw [IntWalk.i64_in _ (by omega)]; omega
 have hmin : ((min (u0 + 1) (v0 + 1) : Nat) : Int) ≤ 64 := by omega
 generalize min (u0 + 1) (v0 + 1) = mn at *
 generalize max (u0 + 1) (v0 + 1) = mx at *
 have htail : ∀ e1, Tr.get e1 0 = some (.sl 0 0 (n + 1) (n + 1) true) → Tr.get e1 1 = some (.int .i64 part) → Tr.get e1 5 = some (.fp [.int .i64 m0, .int .i64 m1] 0) → VC fs ms 0 false (sndC (sndC (sndC (sndC (sndC C_escapementlaw30_TuneShares.body))))) e1 ⟨3, .node (.node .nil none .nil) (some (.cells C true 3)) (.node .nil none .nil)⟩ (endV C_escapementlaw30_TuneShares.results Q) := by
  intro e1 g0 g1 g5
  refine vc_to3 (B := 0) (d := 5) (l := [(0, .sl 0 0 (n + 1) (n + 1) true), (1, .int .i64 part), (5, .fp [.int .i64 m0, .int .i64 m1] 0)]) (O := some (.cells C true 3)) (X := none) (I := none) id ?_ (one_blk ⟨_, rfl, renB_cl rfl hclC⟩) no_blk no_blk (by decide) (by decide) (by decide) (by intro b hb; omega) (by omega) ?_
  ·exact ⟨⟨_, g0, .sl (by omega)⟩, ⟨_, g1, .cl rfl⟩, ⟨_, g5, .cl rfl⟩, trivial⟩
  refine vpC_sound (z := false) ?_
  show vpC fs ms 0 false false _ _ ⟨3, .node (.node .nil none .nil) (some (.cells C true 3)) (.node .nil none .nil)⟩ _
  conv => whnf
  refine vd_pure (hbp) ?_
  conv => whnf
  refine ⟨_, rfl, ?_⟩
  conv => whnf
  refine vd_pure (hb0) ?_
  conv => whnf
  rw [w0]
  conv => whnf
  refine ⟨_, rfl, ?_⟩
  conv => whnf
  refine vd_pure (hb1) ?_
  conv => whnf
  rw [w1]
  refine ⟨winOk_of (by (conv => whnf); repeat' (first | exact trivial | (exact ⟨rfl, rfl, .inr ⟨_, _, rfl⟩⟩) | (refine ⟨rfl, rfl, .inl ⟨rfl, fun o ho => ?_⟩⟩; cases ho; first | rfl) | (exact ⟨rfl, .inr ⟨_, _, rfl⟩⟩) | (refine ⟨rfl, .inl ⟨rfl, fun i o hi ho => ?_⟩⟩; cases hi; cases ho; first | rfl) | (refine And.intro (fun hon => (Bool.false_ne_true hon).elim) ?_ <;> conv => whnf) | (refine And.intro (fun _ => ?_) ?_ <;> conv => whnf) | (refine And.intro ?_ ?_ <;> conv => whnf))), ?_⟩
  conv => whnf
  rw [hmn]
  rcases htwo with ⟨b1, hB⟩ | ⟨p, m, q, r, b1, b2, f1, f2, f3, f4, f5, f6, f7, f8, f9, f10⟩
  ·rw [b1] at hbu
   refine vd_view (v := .tup [.int .i64 0, .int .i64 0, .int .i64 120]) hbu rfl (.cons (hfz _ rfl) (.clean rfl)) ?_
   conv => whnf
   rw [hmx]
   rcases hB with b2 | ⟨q, r, b2, g1, g2, g3, g4⟩
   ·rw [b2] at hbv
    refine vd_view (v := .tup [.int .i64 0, .int .i64 0, .int .i64 120]) hbv rfl (.cons (hfz _ rfl) (.clean rfl)) ?_
    conv => whnf
    refine vd_pure (works30_c) ?_
    conv => whnf
    subst hQ
    rfl
   ·rw [b2] at hbv
    refine vd_view (v := .tup [.int .i64 q, .int .i64 r, .int .i64 0]) hbv rfl (.cons (hfz _ rfl) (.clean rfl)) ?_
    conv => whnf
    refine brf (by simp; omega) (fun hc => ?_)
    (try rw [hc])
    conv => whnf
    refine brf (by simp; omega) (fun hc => ?_)
    (try rw [hc])
    conv => whnf
    refine brf (by simp; omega) (fun hc => ?_)
    (try rw [hc])
    conv => whnf
    refine vd_pure (works30_c) ?_
    conv => whnf
    subst hQ
    rfl
  ·rw [b1] at hbu
   rw [b2] at hbv
   have hown : PC fs ms f_tune_Need [.fz 0 (pts (setPer L i p)), .int .i64 (i : Nat)] (.tup [.int .i64 m, .int .i64 0]) := by
    have hsi : i < (setPer L i p).length := by rw [setPer_len hiL]; exact hiL
    have hss : Small (setPer L i p) := by
     refine ⟨by rw [setPer_len hiL]; exact hs.1, fun x hx => ?_⟩
     rw [setPer_eq hiL] at hx
     rcases List.mem_or_eq_of_mem_set hx with h1 | h1
     ·exact hs.2 x h1
     ·rw [h1]; exact hs.2 L[i] (List.getElem_mem hiL)
    have h1 := Need_c 0 (setPer L i p) i hss hsi rfl (by rw [setPer_len hiL]; omega) (by rw [setPer_per hiL]; exact f2)
    rw [setPer_per hiL] at h1
    simp only [NeedS, needS_set hiL, ← f10] at h1
    rw [if_neg (by omega)] at h1
    exact h1
   refine vd_view (v := .tup [.int .i64 p, .int .i64 m, .int .i64 0]) hbu rfl (.cons (hfz _ rfl) (.clean rfl)) ?_
   conv => whnf
   rw [hmx]
   refine vd_view (v := .tup [.int .i64 q, .int .i64 r, .int .i64 0]) hbv rfl (.cons (hfz _ rfl) (.clean rfl)) ?_
   conv => whnf
   have p1 := mul_le64 (show 0 ≤ r by omega) (show 0 ≤ p by omega) (show r ≤ 64 by omega) (show p ≤ 64 by omega)
   have p2 := mul_le64 (show 0 ≤ m by omega) (show 0 ≤ q by omega) (show m ≤ 64 by omega) (show q ≤ 64 by omega)
   refine brf (by rw [IntWalk.i64_in _ (by omega), IntWalk.i64_in _ (by omega)]; simp; omega) (fun hc => ?_)
   (try rw [hc])
   conv => whnf
   refine brf (by simp; omega) (fun hc => ?_)
   (try rw [hc])
   conv => whnf
   refine brf (by rw [hmn]; simp; omega) (fun hc => ?_)
   (try rw [hc])
   conv => whnf
   refine brf (by simp; omega) (fun hc => ?_)
   (try rw [hc])
   conv => whnf
   refine brf (by simp; omega) (fun hc => ?_)
   (try rw [hc])
   conv => whnf
   refine brf (by simp; omega) (fun hc => ?_)
   (try rw [hc])
   conv => whnf
   refine brf (by simp; omega) (fun hc => ?_)
   (try rw [hc])
   conv => whnf
   refine brf (by simp; omega) (fun hc => ?_)
   (try rw [hc])
   conv => whnf
   refine ⟨_, idx_slS (by omega), ?_⟩
   conv => whnf
   refine brT (by show (Nat.ble (i * 3 + 0 + 1) C.length && true) = true; rw [hlen3, Bool.and_true]; exact Nat.ble_eq_true_of_le (by omega)) ?_
   conv => whnf
   refine vd_view (v := .tup [.int .i64 m, .int .i64 0]) hown rfl (.cons (frz_open (s := 3) trivial rfl (hsp i p hiL) (size_pts _) (by rw [len_pts, setPer_len hiL, hn]) (cl_pts _)) (.cons (.clean rfl) .nil)) ?_
   conv => whnf
   refine brt (by simp) (fun hc => ?_)
   (try rw [hc])
   conv => whnf
   refine vd_pure (works30_c) ?_
   conv => whnf
   subst hQ
   rfl
 refine vc_seq false ?_
 conv => whnf
 refine VD.mono (hcut) fun v g hv => ?_
 obtain ⟨rfl, rfl⟩ := hv
 conv => whnf
 refine vc_seq false ?_
 conv => whnf
 rcases left_three L with ⟨e1, e2⟩ | ⟨a, b, e1, a1, a2, b1, b2, hc⟩
 ·rw [e1] at hsum
  rw [e2] at hleft
  refine vd_view (v := .tup [.int .i64 0, .int .i64 0, .int .i64 2]) hleft rfl (.cons (hfz _ rfl) .nil) ?_
  conv => whnf
  refine vc_seq false ?_
  conv => whnf
  refine vd_view (v := .tup [.int .i64 0, .int .i64 0, .int .i64 2]) hsum rfl (.cons (hfz _ rfl) .nil) ?_
  conv => whnf
  refine vc_seq false ?_
  conv => whnf
  refine htail _ ?_ ?_ ?_ <;> rfl
 rw [e1] at hsum
 have wb : IntKind.i64.wrap (b * b) = b * b := by
  have := mul_le64 (show 0 ≤ b by omega) (show 0 ≤ b by omega) b2 b2
  exact IntWalk.i64_in _ (by omega)
 have wab : IntKind.i64.wrap (a * b) = a * b := by
  have := mul_le64 a1 (show 0 ≤ b by omega) a2 b2
  exact IntWalk.i64_in _ (by omega)
 rcases hc with ⟨c1, e2⟩ | ⟨c1, e2⟩ | ⟨c1, e2⟩
 ·rw [e2] at hleft
  refine vd_view (v := .tup [.int .i64 0, .int .i64 0, .int .i64 120]) hleft rfl (.cons (hfz _ rfl) .nil) ?_
  conv => whnf
  refine vc_seq false ?_
  conv => whnf
  refine vd_view (v := .tup [.int .i64 a, .int .i64 b, .int .i64 0]) hsum rfl (.cons (hfz _ rfl) .nil) ?_
  conv => whnf
  refine vc_seq false ?_
  conv => whnf
  rw [show decide (a ≤ b) = false from decide_eq_false (by omega)]
  conv => whnf
  refine htail _ ?_ ?_ ?_ <;> rfl
 ·rw [e2] at hleft
  refine vd_view (v := .tup [.int .i64 0, .int .i64 1, .int .i64 0]) hleft rfl (.cons (hfz _ rfl) .nil) ?_
  conv => whnf
  refine vc_seq false ?_
  conv => whnf
  refine vd_view (v := .tup [.int .i64 a, .int .i64 b, .int .i64 0]) hsum rfl (.cons (hfz _ rfl) .nil) ?_
  conv => whnf
  refine vc_seq false ?_
  conv => whnf
  rw [show decide (a ≤ b) = true from decide_eq_true (by omega)]
  conv => whnf
  refine brf (by subst c1; rw [Int.zero_mul, Int.mul_one, IntWalk.i64_in a (by omega), show IntKind.i64.wrap 0 = 0 from rfl, Int.zero_add, IntWalk.i64_in a (by omega)]; simp) (fun hc => ?_)
  (try rw [hc])
  conv => whnf
  refine htail _ ?_ ?_ ?_ <;> rfl
 ·rw [e2] at hleft
  refine vd_view (v := .tup [.int .i64 (b - a), .int .i64 b, .int .i64 0]) hleft rfl (.cons (hfz _ rfl) .nil) ?_
  conv => whnf
  refine vc_seq false ?_
  conv => whnf
  refine vd_view (v := .tup [.int .i64 a, .int .i64 b, .int .i64 0]) hsum rfl (.cons (hfz _ rfl) .nil) ?_
  conv => whnf
  refine vc_seq false ?_
  conv => whnf
  rw [show decide (a ≤ b) = true from decide_eq_true (by omega)]
  conv => whnf
  have hcond : (IntKind.i64.wrap (IntKind.i64.wrap ((b - a) * b) + IntKind.i64.wrap (a * b)) != IntKind.i64.wrap (b * b)) = false := by
   have h1 : (b - a) * b = b * b - a * b := Int.sub_mul ..
   have h2 := mul_le64 (show 0 ≤ b by omega) (show 0 ≤ b by omega) b2 b2
   have h3 := mul_le64 a1 (show 0 ≤ b by omega) a2 (show b ≤ 67108864 by omega)
   have h4 : 0 ≤ (b - a) * b := Int.mul_nonneg (by omega) (by omega)
   rw [IntWalk.i64_in ((b - a) * b) (by omega), wab, IntWalk.i64_in _ (by omega), wb, show (b - a) * b + a * b = b * b by omega]
   simp
  refine brf (hcond) (fun hc => ?_)
  (try rw [hc])
  conv => whnf
  refine htail _ ?_ ?_ ?_ <;> rfl

theorem ty_two {x : AV} (h : HasTy Try.prog 55 x) : ∃ d : Int × Int, x = .agg [.int .i64 d.1, .int .i64 d.2] ∧ True := by
 obtain ⟨ys, rfl, hl, h1⟩ := ty_array h Try.underlying55
 match ys, hl with
 | [a, b], _ =>
  obtain ⟨n0, rfl, -⟩ := ty_int (h1 a (by simp)) Try.underlying3
  obtain ⟨n1, rfl, -⟩ := ty_int (h1 b (by simp)) Try.underlying3
  exact ⟨(n0, n1), rfl, trivial⟩
end Ir
end Go.Proofs.Ytlndlbngfgaoeaa
