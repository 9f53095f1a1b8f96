/-
  Tune: what servers share, as the document has it.
-/
import Derived.Test.YtepdklcpagielaaVTunA
import Derived.Test.YtepdklcpagielaaVTunF
import Derived.Test.YtepdklcpagielaaVsX
set_option maxRecDepth 100000
set_option linter.unusedSimpArgs false
set_option linter.unusedVariables false
namespace Go.Proofs.Ytepdklcpagielaa
open Go Ads
namespace Ir

def rawS (L : List Pt) : Nat → Int × Int
  | 0 => (0, 1)
  | j + 1 => match L[j]? with
    | some x => ((rawS L j).1 * x.per + x.bud * (rawS L j).2, (rawS L j).2 * x.per)
    | none => rawS L j
theorem rawS_next {L : List Pt} {j : Nat} (h : j < L.length) : rawS L (j + 1) = ((rawS L j).1 * L[j].per + L[j].bud * (rawS L j).2, (rawS L j).2 * L[j].per) := by rw [rawS, List.getElem?_eq_getElem h]
theorem raw_in {L : List Pt} : ∀ j, j ≤ L.length → (∀ i, i < j → shareBad L i = false) → AccIn (rawS L j) j
  | 0, _, _ => by simp [AccIn, rawS, bdA, bdB]
  | j + 1, h, hb => by
    have hj := hb j (by omega)
    rw [shareBad_eq (by omega), Bool.not_eq_false', shareOk_iff] at hj
    rw [rawS_next (by omega)]
    obtain ⟨h1, h2, h3, h4⟩ := raw_in j (by omega) fun i hi => hb i (by omega)
    generalize rawS L j = q at *
    obtain ⟨a, b⟩ := q
    generalize L[j].per = d at *
    generalize L[j].bud = t at *
    simp only at *
    have m1 := mul_le64 h1 (show 0 ≤ d by omega) h2 (show d ≤ 64 by omega)
    have m2 := mul_le64 (show 0 ≤ t by omega) (show 0 ≤ b by omega) (show t ≤ 64 by omega) h4
    have m3 := mul_le64 (show 0 ≤ b by omega) (show 0 ≤ d by omega) h4 (show d ≤ 64 by omega)
    have m4 := pos_mul h3 (show 1 ≤ d by omega)
    refine ⟨?_, ?_, ?_, ?_⟩ <;> simp only [bdA, bdB] <;> omega
theorem raw_acc {L : List Pt} : ∀ j, j ≤ L.length → (∀ i, i < j → shareBad L i = false) → ∃ g : Int, 1 ≤ g ∧ (rawS L j).1 = g * (accS L j).1 ∧ (rawS L j).2 = g * (accS L j).2 ∧ Int.gcd (accS L j).1 (accS L j).2 = 1
  | 0, _, _ => ⟨1, by omega, by simp [rawS, accS], by simp [rawS, accS], by simp [accS]⟩
  | j + 1, h, hb => by
    have hj := hb j (by omega)
    rw [shareBad_eq (by omega), Bool.not_eq_false', shareOk_iff] at hj
    obtain ⟨g, hg, e1, e2, e3⟩ := raw_acc j (by omega) fun i hi => hb i (by omega)
    obtain ⟨h1, _, h3, _⟩ := acc_in j (by omega) fun i hi => hb i (by omega)
    rw [rawS_next (by omega), accS_next (by omega), e1, e2]
    generalize accS L j = q at *
    obtain ⟨a, b⟩ := q
    generalize L[j].per = d at *
    generalize L[j].bud = t at *
    simp only at *
    have hd : 1 ≤ d := by omega
    have n1 : 0 ≤ a * d := Int.mul_nonneg h1 (by omega)
    have n2 : 0 ≤ t * b := Int.mul_nonneg (by omega) (by omega)
    have n3 := pos_mul h3 hd
    have hT : 0 ≤ topS a b t d := by unfold topS; omega
    have hgi : gS a b t d = ((Int.gcd (topS a b t d) (b * d) : Nat) : Int) := by
      unfold gS
      rw [Int.gcd]
      congr 2 <;> omega
    have hgp : 0 < Int.gcd (topS a b t d) (b * d) := Int.gcd_pos_of_ne_zero_right _ (by omega)
    have d1 : gS a b t d * (topS a b t d / gS a b t d) = topS a b t d := by
      rw [hgi]; exact Int.mul_ediv_cancel' (Int.gcd_dvd_left ..)
    have d2 : gS a b t d * (b * d / gS a b t d) = b * d := by
      rw [hgi]; exact Int.mul_ediv_cancel' (Int.gcd_dvd_right ..)
    refine ⟨g * gS a b t d, ?_, ?_, ?_, ?_⟩
    · have := pos_mul hg (show 1 ≤ gS a b t d by omega); omega
    · show g * a * d + t * (g * b) = g * gS a b t d * (topS a b t d / gS a b t d)
      rw [Int.mul_assoc g (gS a b t d), d1]
      unfold topS
      rw [Int.mul_add, Int.mul_assoc, Int.mul_left_comm t g b]
    · show g * b * d = g * gS a b t d * (b * d / gS a b t d)
      rw [Int.mul_assoc g (gS a b t d), d2, Int.mul_assoc]
    · show Int.gcd (topS a b t d / gS a b t d) (b * d / gS a b t d) = 1
      have h : Int.gcd (gS a b t d * (topS a b t d / gS a b t d)) (gS a b t d * (b * d / gS a b t d)) = Int.gcd (topS a b t d) (b * d) := by rw [d1, d2]
      rw [Int.gcd_mul_left] at h
      have hn : (gS a b t d).natAbs = Int.gcd (topS a b t d) (b * d) := by rw [hgi]; rfl
      rw [hn] at h
      exact Nat.eq_of_mul_eq_mul_left hgp (by rw [h, Nat.mul_one])
/-- In lowest terms. -/
theorem raw_low {L : List Pt} {j : Nat} (h : j ≤ L.length) (hb : ∀ i, i < j → shareBad L i = false) : (rawS L j).1 / ((Int.gcd (rawS L j).1 (rawS L j).2 : Nat) : Int) = (accS L j).1 ∧ (rawS L j).2 / ((Int.gcd (rawS L j).1 (rawS L j).2 : Nat) : Int) = (accS L j).2 := by
  obtain ⟨g, hg, e1, e2, e3⟩ := raw_acc j h hb
  rw [e1, e2, Int.gcd_mul_left, e3, Nat.mul_one]
  have : ((g.natAbs : Nat) : Int) = g := by omega
  rw [this]
  exact ⟨Int.mul_ediv_cancel_left _ (by omega), Int.mul_ediv_cancel_left _ (by omega)⟩

theorem g11_l {B : Nat} {Q : AX → Env → Heap → Prop} {h : Heap} {T U : Int} {G : Nat} (hQ : ∀ e', AllAt e' [(5, .int .i64 T), (6, .int .i64 U), (9, .int .i64 ((G : Nat) : Int))] → Q (.exit 2) e' h) :
    ∀ (b a : Nat) (env : Env), a < 2 ^ 62 → b < 2 ^ 62 → Nat.gcd a b = G → AllAt env [(5, .int .i64 T), (6, .int .i64 U), (9, .int .i64 ((a : Nat) : Int)), (10, .int .i64 ((b : Nat) : Int))] →
    VC fs ms B false (.loop L_escapementref11_Sum_1) env h Q := by
  intro b
  induction b using Nat.strongRecOn with
  | ind b ih =>
  intro a env ha hb hg henv
  refine vc_slots 4 _ henv ?_
  refine vc_loop (z := true) ?_
  set_option smartUnfolding false in conv => whnf
  rcases Nat.eq_zero_or_pos b with h0 | h0
  · subst h0
    set_option smartUnfolding false in conv => whnf
    rw [Nat.gcd_zero_right] at hg
    subst hg
    exact hQ _ ⟨rfl, rfl, rfl, trivial⟩
  · refine brt ((show decide (((b : Nat) : Int) > 0) = true from decide_eq_true (by omega))) (fun hc => ?_)
    (try rw [hc])
    set_option smartUnfolding false in conv => whnf
    have hr : pV (.bin .rem) [.int .i64 ((a : Nat) : Int), .int .i64 ((b : Nat) : Int)] = some (.int .i64 ((a % b : Nat) : Int)) := by
      rw [rem_val _ _ (by omega)]
      exact congrArg (fun z => some (AV.int .i64 z)) (Int.ofNat_tmod a b).symm
    refine ⟨_, hr, ?_⟩
    set_option smartUnfolding false in conv => whnf
    have hlt := Nat.mod_lt a h0
    exact ih (a % b) hlt b _ hb (by omega) (by rw [← hg, Nat.gcd_comm b, ← Nat.gcd_rec, Nat.gcd_comm]) ⟨rfl, rfl, rfl, rfl, trivial⟩

def s11E (k : Nat) (L : List Pt) (j : Nat) : List (Nat × AV) := [(0, .fz k (pts L)), (5, .int .i64 (rawS L j).1), (6, .int .i64 (rawS L j).2), (7, .int .i64 ((j : Nat) : Int))]
theorem s11_l {k : Nat} {L : List Pt} {B : Nat} {Q : AX → Env → Heap → Prop} (h4 : L.length ≤ 4)
    (hR : ∀ e' h', (∃ i, i < L.length ∧ shareBad L i = true) → Tr.get e' 2 = some (.int .i64 0) → Tr.get e' 3 = some (.int .i64 0) → Tr.get e' 4 = some (.int .i64 2) → Q .ret e' h')
    (hX : ∀ e' h', (∀ i, i < L.length → shareBad L i = false) → AllAt e' (s11E k L L.length) → Q (.exit 0) e' h') :
    ∀ (n j : Nat) (h : Heap) (env : Env), L.length - j = n → j ≤ L.length → (∀ i, i < j → shareBad L i = false) → AllAt env (s11E k L j) →
    VC fs ms B false (.loop L_escapementref11_Sum_0) env h Q := by
  intro n
  induction n using Nat.strongRecOn with
  | ind n ih =>
  intro j h env hn hj hb henv
  obtain ⟨r1, r2, r3, r4⟩ := raw_in j hj hb
  have hbd : bdA j ≤ 67108864 ∧ bdB j ≤ 16777216 := by
    rcases j with _ | _ | _ | _ | _ | j
    · decide
    · decide
    · decide
    · decide
    · decide
    · omega
  refine vc_slots 4 _ henv ?_
  refine vc_loopV (vc_seq true ?_)
  unfold s11E
  set_option smartUnfolding false in conv => whnf
  rw [len_pts]
  refine br (fun hc => ?_) (fun hc => ?_) <;> (try rw [hc]) <;> (set_option smartUnfolding false in conv => whnf)
  · have hlt : j < L.length := by have := of_decide_eq_true hc; omega
    have hix := idx_pt (k := k) hlt
    have hnx := rawS_next hlt
    have hbad := shareBad_eq hlt
    generalize hx : L[j] = x at *
    obtain ⟨per, bud, kk, ts⟩ := x
    simp only at hnx
    obtain ⟨T, hT⟩ : ∃ T, (rawS L j).1 = T := ⟨_, rfl⟩
    obtain ⟨U, hU⟩ : ∃ U, (rawS L j).2 = U := ⟨_, rfl⟩
    rw [hT, hU] at hnx ⊢
    rw [hT] at r1 r2
    rw [hU] at r3 r4
    refine vc_seqV (vc_block ?_)
    refine vc_seq true ?_
    set_option smartUnfolding false in conv => whnf
    refine ⟨_, hix, ?_⟩
    set_option smartUnfolding false in conv => whnf
    refine ⟨.agg [.int .i64 per, .int .i64 bud, .fz kk (tks ts)], rfl, ?_⟩
    set_option smartUnfolding false in conv => whnf
    refine eff_o (sto_o get_new_same rfl (Nat.le_refl _) rfl) fun h1 e1 => ?_
    set_option smartUnfolding false in conv => whnf
    have gb : h1.get h.next = some (.cells [.int .i64 per, .int .i64 bud, .fz kk (tks ts)] true 0) := by rw [e1, get_set_same]; rfl
    clear e1
    refine vc_slots 4 [(0, .fz k (pts L)), (5, .int .i64 T), (6, .int .i64 U), (7, .int .i64 ((j : Nat) : Int)), (8, .ptr h.next 0)] ⟨rfl, rfl, rfl, rfl, rfl, trivial⟩ ?_
    have hno : shareOk ⟨per, bud, kk, ts⟩ = false → ∃ i, i < L.length ∧ shareBad L i = true := fun hn => ⟨j, hlt, by rw [hbad, hn]; rfl⟩
    have okk : shareOk ⟨per, bud, kk, ts⟩ = true ↔ per ≤ 64 ∧ 1 ≤ bud ∧ bud ≤ per := shareOk_iff _
    have nok : ¬ (per ≤ 64 ∧ 1 ≤ bud ∧ bud ≤ per) → shareOk ⟨per, bud, kk, ts⟩ = false := fun h => shareOk_no (x := ⟨per, bud, kk, ts⟩) h
    refine vc_seq true ?_
    set_option smartUnfolding false in conv => whnf
    refine ⟨_, ld1 gb rfl, ?_⟩
    set_option smartUnfolding false in conv => whnf
    refine br (fun hc => ?_) (fun hc => ?_) <;> (try rw [hc]) <;> (set_option smartUnfolding false in conv => whnf)
    · have h1 := of_decide_eq_true hc
      exact hR _ _ (hno (nok (by omega))) rfl rfl rfl
    have c1 : ¬ per < 1 := of_decide_eq_false hc
    clear hc
    refine ⟨_, ld1 gb rfl, ?_⟩
    set_option smartUnfolding false in conv => whnf
    refine br (fun hc => ?_) (fun hc => ?_) <;> (try rw [hc]) <;> (set_option smartUnfolding false in conv => whnf)
    · have h1 := of_decide_eq_true hc
      exact hR _ _ (hno (nok (by omega))) rfl rfl rfl
    have c2 : ¬ per > 64 := of_decide_eq_false hc
    clear hc
    refine ⟨_, ld1 gb rfl, ?_⟩
    set_option smartUnfolding false in conv => whnf
    refine br (fun hc => ?_) (fun hc => ?_) <;> (try rw [hc]) <;> (set_option smartUnfolding false in conv => whnf)
    · have h1 := of_decide_eq_true hc
      exact hR _ _ (hno (nok (by omega))) rfl rfl rfl
    have c3 : ¬ bud < 1 := of_decide_eq_false hc
    clear hc
    refine ⟨_, ld1 gb rfl, ?_⟩
    set_option smartUnfolding false in conv => whnf
    refine ⟨_, ld1 gb rfl, ?_⟩
    set_option smartUnfolding false in conv => whnf
    refine br (fun hc => ?_) (fun hc => ?_) <;> (try rw [hc]) <;> (set_option smartUnfolding false in conv => whnf)
    · have h1 := of_decide_eq_true hc
      exact hR _ _ (hno (nok (by omega))) rfl rfl rfl
    have c4 : ¬ bud > per := of_decide_eq_false hc
    clear hc
    have hok : shareBad L j = false := by rw [hbad, okk.2 ⟨by omega, by omega, by omega⟩]; rfl
    have m1 := mul_le64 r1 (show 0 ≤ per by omega) r2 (show per ≤ 64 by omega)
    have m2 := mul_le64 (show 0 ≤ bud by omega) (show 0 ≤ U by omega) (show bud ≤ 64 by omega) r4
    have m3 := mul_le64 (show 0 ≤ U by omega) (show 0 ≤ per by omega) r4 (show per ≤ 64 by omega)
    have w1 : IntKind.i64.wrap (IntKind.i64.wrap (T * per) + IntKind.i64.wrap (bud * U)) = T * per + bud * U := by
      rw [IntWalk.i64_in (T * per) (by omega), IntWalk.i64_in (bud * U) (by omega), IntWalk.i64_in _ (by omega)]
    have w2 : IntKind.i64.wrap (U * per) = U * per := IntWalk.i64_in _ (by omega)
    refine vpC_sound (z := true) ?_
    set_option smartUnfolding false in conv => whnf
    refine ⟨_, ld1 gb rfl, ?_⟩
    set_option smartUnfolding false in conv => whnf
    refine ⟨_, ld1 gb rfl, ?_⟩
    set_option smartUnfolding false in conv => whnf
    rw [w1]
    refine ⟨_, ld1 gb rfl, ?_⟩
    set_option smartUnfolding false in conv => whnf
    rw [w2]
    refine vpC_sound (z := true) ?_
    set_option smartUnfolding false in conv => whnf
    refine ih (L.length - (j + 1)) (by omega) (j + 1) h1 _ rfl (by omega) (fun i hi => ?_) ?_
    · by_cases e : i = j
      · rw [e]; exact hok
      · exact hb i (by omega)
    · unfold s11E
      rw [hnx]
      exact ⟨rfl, rfl, rfl, inc_slot (by omega), trivial⟩
  · have hge : j = L.length := by have := of_decide_eq_false hc; omega
    subst hge
    exact hX _ h hb ⟨rfl, rfl, rfl, rfl, trivial⟩

theorem sumS_bad {L : List Pt} (h : 4 < L.length ∨ ∃ i, i < L.length ∧ shareBad L i = true) : SumS L = (0, 0, 2) := by
  have : (sumR L).2 = false := by
    unfold sumR
    by_cases h4 : 4 < L.length
    · rw [if_pos h4]
    · rw [if_neg h4]
      obtain ⟨i, hi, hb⟩ := h.resolve_left h4
      cases hf : firstBad (shareBad L) 0 L.length with
      | some u => rfl
      | none =>
        have := firstBad_none hf i hi
        rw [Nat.zero_add, hb] at this
        cases this
  rw [SumS, if_neg (by rw [this]; decide)]
theorem sumS_ok {L : List Pt} (h4 : L.length ≤ 4) (h : ∀ i, i < L.length → shareBad L i = false) : SumS L = ((accS L L.length).1, (accS L L.length).2, 0) := by
  have : sumR L = (accS L L.length, true) := by
    unfold sumR
    rw [if_neg (by omega)]
    cases hf : firstBad (shareBad L) 0 L.length with
    | none => rfl
    | some u =>
      obtain ⟨u1, u2, u3, u4⟩ := firstBad_some hf
      rw [h u (by omega)] at u3
      cases u3
  rw [SumS, this, if_pos rfl]
theorem s11_c (k : Nat) (L : List Pt) (hs : L.length < 2 ^ 60) : PC fs ms f_escapementref11_Sum [.fz k (pts L)] (tripI (SumS L)) := by
  refine pc_of (by simp [clL, AV.cl, cl_pts]) rfl ?_
  generalize hK : (fun (u : AV) (_ : Heap) => u = tripI (SumS L)) = K
  have hKt : ∀ h v, v = tripI (SumS L) → K v h := fun h v e => by subst hK; exact e
  clear hK
  generalize (⟨0, .nil⟩ : Heap) = h0
  refine vd_begin (af := C_escapementref11_Sum) rfl (Nat.le_of_ble_eq_true rfl) ?_
  set_option smartUnfolding false in conv => whnf
  refine vc_seq true ?_
  set_option smartUnfolding false in conv => whnf
  refine vc_seq true ?_
  set_option smartUnfolding false in conv => whnf
  rw [len_pts]
  refine br (fun hc => ?_) (fun hc => ?_) <;> (try rw [hc]) <;> (set_option smartUnfolding false in conv => whnf)
  · have h4 : 4 < L.length := by have := of_decide_eq_true hc; omega
    exact hKt _ _ (by rw [sumS_bad (.inl h4)]; rfl)
  have h4 : L.length ≤ 4 := by have := of_decide_eq_false hc; omega
  refine vc_seq true ?_
  set_option smartUnfolding false in conv => whnf
  refine vc_seqV (vc_seq true ?_)
  set_option smartUnfolding false in conv => whnf
  refine vc_block ?_
  refine s11_l (k := k) h4 ?_ ?_ _ 0 h0 _ rfl (Nat.zero_le _) (fun i hi => by omega) ⟨rfl, rfl, rfl, rfl, trivial⟩
  · intro e' h' hb g2 g3 g4
    show endV [.tmp 2, .tmp 3, .tmp 4] K .ret e' h'
    simp only [endV, resAllV, resOfV, g2, g3, g4]
    exact hKt _ _ (by rw [sumS_bad (.inr hb)]; rfl)
  · intro e' h' hok he
    show VC fs ms _ _ _ _ _ _
    obtain ⟨r1, r2, r3, r4⟩ := raw_in L.length (Nat.le_refl _) hok
    obtain ⟨q1, q2⟩ := raw_low (Nat.le_refl _) hok
    have hS := sumS_ok h4 hok
    have hbd : bdA L.length ≤ 67108864 ∧ bdB L.length ≤ 16777216 := by
      generalize L.length = j at h4
      rcases j with _ | _ | _ | _ | _ | j
      · decide
      · decide
      · decide
      · decide
      · decide
      · omega
    rw [hS] at hKt
    unfold s11E at he
    generalize accS L L.length = q at *
    obtain ⟨qa, qb⟩ := q
    generalize rawS L L.length = r at *
    obtain ⟨T, U⟩ := r
    simp only at *
    obtain ⟨a, rfl⟩ : ∃ a : Nat, T = a := ⟨T.toNat, by omega⟩
    obtain ⟨b, rfl⟩ : ∃ b : Nat, U = b := ⟨U.toNat, by omega⟩
    obtain ⟨G, hG⟩ : ∃ G, Nat.gcd a b = G := ⟨_, rfl⟩
    have hGi : Int.gcd ((a : Nat) : Int) ((b : Nat) : Int) = G := hG
    rw [hGi] at q1 q2
    have hG0 : 0 < G := by rw [← hG]; exact Nat.gcd_pos_of_pos_right _ (by omega)
    refine vc_slots 4 [(5, .int .i64 ((a : Nat) : Int)), (6, .int .i64 ((b : Nat) : Int))] ⟨he.2.1, he.2.2.1, trivial⟩ (vc_seq true ?_)
    set_option smartUnfolding false in conv => whnf
    refine vc_seqV (vc_block ?_)
    refine g11_l (T := ((a : Nat) : Int)) (U := ((b : Nat) : Int)) (G := G) ?_ b a _ (by omega) (by omega) hG ⟨rfl, rfl, rfl, rfl, trivial⟩
    intro e2 he2
    show VC fs ms _ _ _ _ _ _
    have v1 : pV (.bin .quo) [.int .i64 ((a : Nat) : Int), .int .i64 ((G : Nat) : Int)] = some (.int .i64 qa) := by
      rw [quo_val _ _ (by omega), Int.tdiv_eq_ediv_of_nonneg (by omega), q1]
      have : qa ≤ a := by rw [← q1]; exact Int.ediv_le_self _ (by omega)
      have : 0 ≤ qa := by rw [← q1]; exact Int.ediv_nonneg (by omega) (by omega)
      rw [IntWalk.i64_in _ (by omega)]
    have v2 : pV (.bin .quo) [.int .i64 ((b : Nat) : Int), .int .i64 ((G : Nat) : Int)] = some (.int .i64 qb) := by
      rw [quo_val _ _ (by omega), Int.tdiv_eq_ediv_of_nonneg (by omega), q2]
      have : qb ≤ b := by rw [← q2]; exact Int.ediv_le_self _ (by omega)
      have : 0 ≤ qb := by rw [← q2]; exact Int.ediv_nonneg (by omega) (by omega)
      rw [IntWalk.i64_in _ (by omega)]
    refine vc_slots 4 _ he2 (vpC_sound (z := true) ?_)
    set_option smartUnfolding false in conv => whnf
    refine ⟨_, v1, ?_⟩
    set_option smartUnfolding false in conv => whnf
    refine ⟨_, v2, ?_⟩
    set_option smartUnfolding false in conv => whnf
    exact hKt _ _ rfl
theorem rleft_c (k : Nat) (L : List Pt) (hs : L.length < 2 ^ 60) : PC fs ms f_escapementref30_Left [.fz k (pts L)] (tripI (LeftS L)) := by
  refine pc_of (by simp [clL, AV.cl, cl_pts]) rfl ?_
  refine vd_start (af := C_escapementref30_Left) false rfl (Nat.le_of_ble_eq_true rfl) ?_
  generalize hQ : (fun (v : AV) (_ : Heap) => v = tripI (LeftS L)) = Q
  have hc := s11_c k L hs
  have hin : SumS L = (0, 0, 2) ∨ (0 ≤ (SumS L).1 ∧ (SumS L).1 ≤ 67108864 ∧ 1 ≤ (SumS L).2.1 ∧ (SumS L).2.1 ≤ 16777216 ∧ (SumS L).2.2 = 0) := by
    unfold SumS
    by_cases h : (sumR L).2 = true
    · rw [if_pos h]
      have := sumR_in h
      exact .inr ⟨this.1, this.2.1, this.2.2.1, this.2.2.2, rfl⟩
    · rw [if_neg h]
      exact .inl rfl
  unfold LeftS at hQ
  generalize SumS L = q at *
  obtain ⟨a, b, e⟩ := q
  set_option smartUnfolding false in conv => whnf
  refine vd_pure (v := .tup [.int .i64 a, .int .i64 b, .int .i64 e]) hc ?_
  set_option smartUnfolding false in conv => whnf
  simp only [Prod.mk.injEq] at hin
  rcases hin with ⟨rfl, rfl, rfl⟩ | ⟨h1, h2, h3, h4, rfl⟩
  · set_option smartUnfolding false in conv => whnf
    subst hQ
    rfl
  · set_option smartUnfolding false in conv => whnf
    by_cases c1 : b < a
    · refine brt (by simpa using c1) (fun hc => ?_)
      (try rw [hc])
      set_option smartUnfolding false in conv => whnf
      subst hQ
      show _ = tripI (if (0 : Int) ≠ 0 then _ else if b < a then _ else _)
      rw [if_neg (by omega), if_pos c1]
      rfl
    refine brf (by simpa using c1) (fun hc => ?_)
    (try rw [hc])
    set_option smartUnfolding false in conv => whnf
    rw [IntWalk.i64_in (b - a) (by omega)]
    by_cases c2 : a = b
    · refine brt (by simp; omega) (fun hc => ?_)
      (try rw [hc])
      set_option smartUnfolding false in conv => whnf
      subst hQ
      show _ = tripI (if (0 : Int) ≠ 0 then _ else if b < a then _ else if a = b then _ else _)
      rw [if_neg (by omega), if_neg c1, if_pos c2, show b - a = 0 by omega]
      rfl
    refine brf (by simp; omega) (fun hc => ?_)
    (try rw [hc])
    set_option smartUnfolding false in conv => whnf
    subst hQ
    show _ = tripI (if (0 : Int) ≠ 0 then _ else if b < a then _ else if a = b then _ else _)
    rw [if_neg (by omega), if_neg c1, if_neg c2]
    rfl
end Ir
end Go.Proofs.Ytepdklcpagielaa
