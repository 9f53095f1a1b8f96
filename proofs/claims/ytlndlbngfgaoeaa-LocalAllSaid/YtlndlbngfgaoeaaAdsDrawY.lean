/-
  Regions that draw their order mean what they mean in the text's order.
  Regions that draw their order mean what they mean in the text's order: the induction.
-/
import Derived.Test.YtlndlbngfgaoeaaAdsDrawX
import Derived.Test.YtlndlbngfgaoeaaAdsCode
set_option linter.unusedSimpArgs false
set_option linter.unusedVariables false
namespace Go.Proofs.Ytlndlbngfgaoeaa
namespace Ads

section
variable {P : Program} {H0 : Nat} {D : Dom} {N : Nat} {l : List Ins} {bs : List Nat} {e : Env} {h : Heap} {tr : List Mark1} {e' : Env} {h' : Heap}
 {ρ0 : Rho} {w0 : World} {a0 : Act} {S : Nat → Bool} {c : Nat} {ρ : Rho} {a : Act} {w : World} {i : Nat} {x : Ins} {m : Mark1} {ro : Option Nat} {n : Nat} {rd : Bool}

theorem allIdx_get {α : Type} {f : Nat → α → Bool} : ∀ {l : List α} {k : Nat}, allIdx f k l = true → ∀ {i : Nat} {x : α}, l[i]? = some x → f (k + i) x = true
 | [], k, h, i, x, hx => by simp at hx
 | y :: l, k, h, i, x, hx => by
  simp only [allIdx] at h
  cases hf : f k y with
  | false => rw [hf] at h; simp at h
  | true =>
   rw [hf] at h
   cases i with
   | zero => simp at hx; subst hx; exact hf
   | succ i =>
    simp at hx
    have := allIdx_get (k := k + 1) h hx
    rwa [show k + 1 + i = k + (i + 1) by omega] at this

theorem pairs_of (hp : pairsOk bs l = true) (i j : Nat) (x y : Ins) (hij : i < j) (hx : l[i]? = some x) (hy : l[j]? = some y) : Bef bs j i ∨ (¬(isEff x.op = true ∧ isEff y.op = true) ∧ apartI x y = true) := by
 have h1 := allIdx_get hp hy
 have h2 := allIdx_get h1 hx
 simp only [Nat.zero_add, Bool.or_eq_true, decide_eq_true_eq, Bool.and_eq_true, Bool.not_eq_true', Bool.and_eq_false_iff] at h2
 rcases h2 with (h2 | h2) | h2
 ·omega
 ·exact .inl h2
 ·refine .inr ⟨?_, h2.2⟩
  rintro ⟨g1, g2⟩
  rcases h2.1 with h3 | h3
  ·rw [g1] at h3; simp at h3
  ·rw [g2] at h3; simp at h3

theorem fold_bits {β : Type} (b : β → Bool) (g : β → Nat) (k : β → Nat) (j : Nat) : ∀ (L : List β) (s : Nat),
  (L.foldl (fun s e => cond (b e) (s ||| 2 ^ k e ||| g e) s) s).testBit j = (s.testBit j || L.any fun e => b e && (decide (k e = j) || (g e).testBit j))
 | [], s => by simp
 | e :: L, s => by
  rw [List.foldl_cons, fold_bits b g k j L]
  cases hb : b e
  ·simp [hb]
  ·simp [hb, Nat.testBit_or, Nat.testBit_two_pow, Bool.or_assoc]

theorem edges_of {os : List Oper} (hp : edgesOk bs os = true) {i : Nat} {o : Oper} (ho : os[i]? = some o) :
  (∀ j, Bef bs i j → ∃ ed ∈ o.after.toList, Region.binds .any ed = true ∧ (ed.on = j ∨ Bef bs ed.on j)) ∧ (∀ ed ∈ o.after.toList, Region.binds .any ed = true → ed.on < i) ∧ ∀ j, Bef bs i j → j < i := by
 have h1 := allIdx_get hp ho
 simp only [Nat.zero_add, Bool.and_eq_true, decide_eq_true_eq] at h1
 have h2 := Nat.eq_of_beq_eq_true h1.2
 have hlt : ∀ j, Bef bs i j → j < i := by
  intro j hb
  rcases Nat.lt_or_ge j i with hj | hj
  ·exact hj
  ·have : (bs.getD i 0).testBit j = false := Nat.testBit_lt_two_pow (Nat.lt_of_lt_of_le h1.1 (Nat.pow_le_pow_right (by omega) hj))
   unfold Bef at hb
   rw [this] at hb
   simp at hb
 have hbit : ∀ j, (bs.getD i 0).testBit j = o.after.toList.any fun ed => Region.binds .any ed && (decide (ed.on = j) || (bs.getD ed.on 0).testBit j) := by
  intro j
  rw [h2, fold_bits (fun ed => Region.binds .any ed) (fun ed => bs.getD ed.on 0) (fun ed => ed.on) j o.after.toList 0]
  simp
 refine ⟨fun j hb => ?_, fun ed hed hbi => ?_, hlt⟩
 ·unfold Bef at hb
  rw [hbit, List.any_eq_true] at hb
  obtain ⟨ed, hed, hb⟩ := hb
  simp only [Bool.and_eq_true, Bool.or_eq_true, decide_eq_true_eq] at hb
  exact ⟨ed, hed, hb.1, hb.2⟩
 ·refine hlt _ ?_
  unfold Bef
  rw [hbit, List.any_eq_true]
  exact ⟨ed, hed, by simp [hbi]⟩

theorem compCode_dops {code : Code} {win : List (List Nat)} (hs : isScope code = false) (hc : compCode P code = .dops l win) : ∃ id os, code = .region id os true ∧ os.toList.map (compIns P os) = l ∧
  pairsOk (befores os) l = true ∧ edgesOk (befores os) os.toList = true ∧ win = (List.range l.length).map (window (befores os) l (effsOf l)) := by
 cases code <;> simp [compCode, isScope] at hc hs
 case region id os draw =>
  unfold compRegion at hc
  simp only at hc
  cases draw with
  | false => simp at hc
  | true =>
   simp only [Bool.not_true, Bool.false_eq_true, if_false] at hc
   split at hc
   ·rename_i hcond
    simp only [AC.dops.injEq] at hc
    simp only [Bool.and_eq_true] at hcond
    obtain ⟨rfl, rfl⟩ := hc
    exact ⟨id, os, rfl, rfl, hcond.1, hcond.2, rfl⟩
   ·simp at hc
 case cond c x y => split at hc <;> simp at hc
 case rangeFunc f ps x y => split at hc <;> simp at hc

/- How many are done. -/
def cnt (S : Nat → Bool) : Nat → Nat
 | 0 => 0
 | n + 1 => cnt S n + cond (S n) 1 0

theorem cnt_le (S : Nat → Bool) : ∀ n, cnt S n ≤ n
 | 0 => Nat.le_refl _
 | n + 1 => by have := cnt_le S n; simp only [cnt]; cases S n <;> simp <;> omega

theorem cnt_full (S : Nat → Bool) : ∀ n, n ≤ cnt S n → ∀ j, j < n → S j = true
 | 0, _, j, hj => by omega
 | n + 1, h, j, hj => by
  simp only [cnt] at h
  have := cnt_le S n
  cases hs : S n with
  | false => rw [hs] at h; simp at h; omega
  | true =>
   rw [hs] at h
   simp at h
   by_cases hjn : j = n
   ·subst hjn; exact hs
   ·exact cnt_full S n (by omega) j (by omega)

theorem cnt_plus1 (hs : S i = false) : ∀ n, cnt (plus1 S i) n = cnt S n + cond (decide (i < n)) 1 0
 | 0 => by simp [cnt]
 | n + 1 => by
  simp only [cnt]
  rw [cnt_plus1 hs n]
  by_cases hin : n = i
  ·subst hin
   simp [plus1, hs]
  ·have : plus1 S i n = S n := by simp [plus1, hin]
   rw [this]
   by_cases hlt : i < n
   ·simp [hlt, show i < n + 1 by omega]; omega
   ·simp [hlt, show ¬ i < n + 1 by omega]

theorem mem_effsOf {p : Nat} : p ∈ effsOf l ↔ ∃ x, l[p]? = some x ∧ isEff x.op = true := by
 unfold effsOf
 rw [List.mem_filter, List.mem_range]
 cases hx : l[p]? with
 | none => simp [List.getElem?_eq_none_iff.1 hx]
 | some x => simp [(List.getElem?_eq_some_iff.1 hx).1]

theorem readsOk_get {u : Nat → Heap} : ∀ {l : List Ins} {win : List (List Nat)} {tr : List Mark1}, readsOk u l win tr → ∀ {i : Nat} {x : Ins} {cs : List Nat} {m : Mark1} {o : ROp}, l[i]? = some x → win[i]? = some cs → tr[i]? = some m →
  x.op = .r o → m.on = true → ∀ c ∈ cs, rI o m.vals (u c) = some m.v
 | [], win, tr, h, i, x, cs, m, o, hx, hw, hm, ho, hon => by simp at hx
 | y :: l, [], tr, h, i, x, cs, m, o, hx, hw, hm, ho, hon => by simp at hw
 | y :: l, ds :: win, [], h, i, x, cs, m, o, hx, hw, hm, ho, hon => by simp at hm
 | y :: l, ds :: win, q :: tr, h, i, x, cs, m, o, hx, hw, hm, ho, hon => by
  simp only [readsOk] at h
  cases i with
  | zero =>
   simp at hx hw hm
   subst hx hw hm
   have := h.1
   rw [ho] at this
   exact this hon
  | succ i =>
   simp at hx hw hm
   exact readsOk_get h.2 hx hw hm ho hon

theorem text_cut (l : List Ins) : ∀ i : Nat, ∃ ct, ct ∈ 0 :: (effsOf l).map (· + 1) ∧ ct ≤ i ∧ ∀ p, p ∈ effsOf l → p < i → p < ct
 | 0 => ⟨0, by simp, Nat.le_refl _, fun p _ h => by omega⟩
 | i + 1 => by
  obtain ⟨ct, h1, h2, h3⟩ := text_cut l i
  by_cases hi : i ∈ effsOf l
  ·exact ⟨i + 1, List.mem_cons_of_mem _ (List.mem_map.2 ⟨i, hi, rfl⟩), Nat.le_refl _, fun p _ h => h⟩
  ·refine ⟨ct, h1, by omega, fun p hp hlt => h3 p hp ?_⟩
   rcases Nat.lt_or_ge p i with h | h
   ·exact h
   ·have : p = i := by omega
    subst this
    exact absurd hp hi

theorem J.read (R : Rg P H0 D N l bs e h tr e' h') (j : J P H0 D N l bs e h tr h' ρ0 w0 a0 S c ρ a w) (u : Up bs l tr S i x m) {o : ROp} (ho : x.op = .r o) (hon : m.on = true)
  (hord : ∀ j, Bef bs i j → j < i) (hord' : ∀ p, p ∈ effsOf l → Bef bs p i → i < p) (hcan : c ∈ 0 :: (effsOf l).map (· + 1))
  (hreads : readsOk (heapU l tr h') l ((List.range l.length).map (window bs l (effsOf l))) tr) (hr : rI o m.vals (heapAt tr h' i) = some m.v) : rI o m.vals (heapU l tr h' c) = some m.v := by
 have hmay : ∀ c, c ∈ 0 :: (effsOf l).map (· + 1) → (∀ p, p ∈ effsOf l → Bef bs i p → p < c) → (∀ p, p ∈ effsOf l → Bef bs p i → ¬ p < c) → c ∈ cutsOf bs l (effsOf l) i := by
  intro c hc h1 h2
  unfold cutsOf
  rw [List.mem_filter]
  refine ⟨hc, ?_⟩
  unfold mayAt
  rw [List.all_eq_true]
  intro p hp
  simp only [Bool.and_eq_true, Bool.or_eq_true, Bool.not_eq_true', decide_eq_true_eq, decide_eq_false_iff_not]
  constructor
  ·cases hb : (bs.getD i 0).testBit p with
   | false => exact .inl rfl
   | true => exact .inr (h1 p hp hb)
  ·cases hb : (bs.getD p 0).testBit i with
   | false => exact .inl rfl
   | true => exact .inr (h2 p hp hb)
 have hc : c ∈ cutsOf bs l (effsOf l) i := by
  refine hmay c hcan (fun p hp hb => ?_) (fun p hp hb hlt => ?_)
  ·obtain ⟨y, hy, hye⟩ := mem_effsOf.1 hp
   exact (j.cut p y hy hye).1 (u.pre p hb)
  ·obtain ⟨y, hy, hye⟩ := mem_effsOf.1 hp
   have := j.closed p ((j.cut p y hy hye).2 hlt) i hb
   rw [u.hsi] at this
   simp at this
 have hw : ((List.range l.length).map (window bs l (effsOf l)))[i]? = some (window bs l (effsOf l) i) := by
  simp [u.lt]
 have hread := readsOk_get hreads u.hx hw u.hm ho hon
 by_cases hone : ∃ c0, cutsOf bs l (effsOf l) i = [c0]
 ·obtain ⟨c0, hc0⟩ := hone
  obtain ⟨ct, k1, k2, k3⟩ := text_cut l i
  have hct := hmay ct k1 (fun p hp hb => k3 p hp (hord p hb)) (fun p hp hb hlt => by have := hord' p hp hb; omega)
  rw [hc0] at hc hct
  simp at hc hct
  subst hct
  have hsame : ∀ b, (heapU l tr h' c).get b = (heapU l tr h' i).get b := by
   intro b
   rw [hc]
   have := R.u_between (c := ct) b (i - ct) (fun q y hq1 hq2 hy => by
    cases hye : isEff y.op with
    | false => rfl
    | true => have := k3 q (mem_effsOf.2 ⟨y, hy, hye⟩) (by omega); omega)
   rwa [show ct + (i - ct) = i by omega] at this
  refine rI_mono (h := heapAt tr h' i) ?_ hr
  intro b y hy
  have hlt : b < (heapAt tr h' i).next := by
   rcases Nat.lt_or_ge b (heapAt tr h' i).next with hb | hb
   ·exact hb
   ·rw [R.tra.top i b hb] at hy; simp at hy
  rw [hsame b, R.u_low hlt]
  exact hy
 ·refine hread c ?_
  unfold window
  rw [u.hx]
  simp only [ho, isRead, cond_true]
  split
  ·rename_i q hq
   exact absurd ⟨q, hq⟩ hone
  ·exact hc

theorem Inv.rho {ρ ρ' : Rho} (j : Inv P H0 ρ D h w) (hag : ∀ b, D b → ρ' b = ρ b) : Inv P H0 ρ' D h w :=
 ⟨j.lt, j.top, j.low, fun b x hb hx => by rw [hag b hb]; exact blkReal_keep (j.blk b x hb hx) (fun _ => id) hag rfl,
  fun b b' hb hb' hne hw hx => by rw [hag b hb, hag b' hb']; exact j.apart b b' hb hb' hne hw hx⟩

theorem J.start (R : Rg P H0 D N l bs e h tr e' h') (hi : Inv P H0 ρ D h w) (he : EInv ρ D N e a) :
  J P H0 D N l bs e h tr h' ρ w a (fun _ => false) 0 (fun b => if b < h.next then ρ b else ⟨w.heap.size, 0, 0⟩) a w := by
 have hag : ∀ b, D b → (fun b => if b < h.next then ρ b else ⟨w.heap.size, 0, 0⟩ : Rho) b = ρ b := fun b hb => if_pos (R.dlt b hb)
 have hds : DS D l tr h' (fun _ => false) = D := by
  funext b
  simp [DS]
 have hz := R.ot.zero
 have hlow : h.next ≤ h'.next := by have := R.le_last 0; rwa [hz] at this
 have hg : ∀ b, b < h.next → (heapU l tr h' 0).get b = h.get b := by
  intro b hb
  rw [R.u_low (by rw [hz]; exact hb), hz]
 refine ⟨fun j x _ _ => by simp, fun j hj => by simp at hj, ?_, ?_, ?_, ?_, rfl⟩
 ·rw [hds]
  have hi' := hi.rho hag
  refine ⟨fun b hb => Nat.lt_of_lt_of_le (R.dlt b hb) hlow, fun b hb => R.u_top hb, hi.low, ?_, ?_⟩
  ·intro b x hb hx
   rw [hg b (R.dlt b hb)] at hx
   exact hi'.blk b x hb hx
  ·intro b b' hb hb' hne hw hx
   rw [Heap.wr_congr (hg b (R.dlt b hb))] at hw
   rw [hg b' (R.dlt b' hb')] at hx
   exact hi'.apart b b' hb hb' hne hw hx
 ·refine ⟨hlow, hag, Nat.le_refl _, fun _ _ _ => rfl, fun b hb _ => hg b hb, ?_, ?_, rfl, rfl, rfl⟩
  ·intro b hb hn
   rw [hg b hb] at hn
   exact ⟨hn, fun hw => (Heap.wr_congr (hg b hb)).symm.trans hw⟩
  ·intro b hb1 hb2
   rw [if_neg (by omega)]
   exact .inl (Nat.le_refl _)
 ·intro j x m bk hx hm hb _
  exact R.u_made hx hm hb (Nat.zero_le _)
 ·rw [hds]
  refine (he.mono hag (fun _ => id)).congr ?_
  intro d
  refine (envOf_at l tr (fun _ => false) 0 d e e rfl R.ot.length (fun j x _ _ => by simp)).trans ?_
  cases l <;> cases tr <;> simp [envAt]

theorem range_split (tr : List Mark1) (h' : Heap) (lo : Nat) : ∀ (k b : Nat), (heapAt tr h' 0).next ≤ b → b < (heapAt tr h' k).next → ∃ j, j < k ∧ (heapAt tr h' j).next ≤ b ∧ b < (heapAt tr h' (j + 1)).next
 | 0, b, h1, h2 => by omega
 | k + 1, b, h1, h2 => by
  by_cases hb : b < (heapAt tr h' k).next
  ·obtain ⟨j, g1, g2⟩ := range_split tr h' lo k b h1 hb
   exact ⟨j, by omega, g2⟩
  ·exact ⟨k, by omega, by omega, h2⟩

theorem J.finish (R : Rg P H0 D N l bs e h tr e' h') (j : J P H0 D N l bs e h tr h' ρ0 w0 a0 S c ρ a w) (hall : ∀ k, k < l.length → S k = true) :
  Inv P H0 ρ (grow D h.next h'.next) h' w ∧ Ext ρ0 D h w0 ρ h' w ∧ EInv ρ (grow D h.next h'.next) N e' a ∧ a.defers = a0.defers := by
 have hcut : Cut l S l.length := fun k x hx _ => by
  have := (List.getElem?_eq_some_iff.1 hx).1
  simp [hall k this, this]
 have hg : ∀ b, h'.get b = (heapU l tr h' c).get b := by
  intro b
  rw [R.u_cut j.cut hcut b]
  show h'.get b = (over (l.drop l.length) (tr.drop l.length) (heapAt tr h' l.length).m).get b
  rw [R.ot.last (Nat.le_refl _), List.drop_length]
  simp [over, Heap.get]
 have hds : DS D l tr h' S = grow D h.next h'.next := by
  funext b
  rw [eq_iff_iff]
  constructor
  ·rintro (hb | ⟨q, _, _, h1, h2⟩)
   ·exact .inl hb
   ·exact .inr ⟨Nat.le_trans (R.tra.low q) h1, Nat.lt_of_lt_of_le h2 (R.le_last _)⟩
  ·rintro (hb | hb)
   ·exact .inl hb
   ·obtain ⟨q, g1, g2, g3⟩ := range_split tr h' 0 l.length b (by rw [R.ot.zero]; exact hb.1) (by rw [R.ot.last (Nat.le_refl _)]; exact hb.2)
    exact .inr ⟨q, hall q g1, g1, g2, g3⟩
 refine ⟨?_, j.ext.congr rfl hg, ?_, j.defers⟩
 ·rw [← hds]; exact j.inv.congr rfl hg
 ·rw [← hds]
  refine j.env.congr ?_
  intro d
  rw [envOf_at l tr S l.length d e e rfl R.ot.length (fun k x hx _ => by
   have := (List.getElem?_eq_some_iff.1 hx).1
   rw [hall k this]; simp [this]), envAt_end R.ot]
end
end Ads
end Go.Proofs.Ytlndlbngfgaoeaa

set_option linter.unusedSimpArgs false
set_option linter.unusedVariables false
namespace Go.Proofs.Ytlndlbngfgaoeaa
namespace Ads

section
variable {P : Program} {H0 : Nat} {D : Dom} {N : Nat} {l : List Ins} {bs : List Nat} {e : Env} {h : Heap} {tr : List Mark1} {e' : Env} {h' : Heap}
 {ρ0 : Rho} {w0 : World} {a0 : Act} {c : Nat} {ρ : Rho} {a : Act} {w : World} {i : Nat} {x : Ins} {m : Mark1} {ro : Option Nat} {n : Nat} {rd : Bool}

theorem draw_step (R : Rg P H0 D N l bs e h tr e' h') {os : Array Oper} (hos : ∀ i o, os[i]? = some o → i < l.length → l[i]? = some (compIns P os o)) (hsz : l.length ≤ os.size) (hil : i < l.length) (hed : edgesOk bs os.toList = true)
  (hreads : readsOk (heapU l tr h') l ((List.range l.length).map (window bs l (effsOf l))) tr) {Q : Exit → Act → World → Prop} {S : Nat → Bool}
  (j : J P H0 D N l bs e h tr h' ρ0 w0 a0 S c ρ a w) (hcan : c ∈ 0 :: (effsOf l).map (· + 1)) {o : Oper} (ho : os[i]? = some o) (hsi : S i = false)
  (hpre : ∀ j, Bef bs i j → S j = true) {K : Act → World → Prop}
  (hk : ∀ c' ρ' a' w', c' ∈ 0 :: (effsOf l).map (· + 1) → J P H0 D N l bs e h tr h' ρ0 w0 a0 (plus1 S i) c' ρ' a' w' → K a' w') :
  wpOpIn (FW ro) n P os Q i K a w := by
 have hx : l[i]? = some (compIns P os o) := hos i o ho hil
 obtain ⟨m, hm, hmh, hmv, hcase⟩ := R.ot.at hx
 have u : Up bs l tr S i (compIns P os o) m := ⟨hx, hm, hsi, hpre⟩
 have hvals := j.vals R u
 have hwant := j.wanted R u
 have hdst : (compIns P os o).dst = o.dst := (compIns_inv rfl).1
 have hcan' : cond (isEff (compIns P os o).op) (i + 1) c ∈ 0 :: (effsOf l).map (· + 1) := by
  cases he : isEff (compIns P os o).op with
  | false => exact hcan
  | true => exact List.mem_cons_of_mem _ (List.mem_map.2 ⟨i, mem_effsOf.2 ⟨_, hx, he⟩, rfl⟩)
 unfold wpOpIn
 rw [ho]
 simp only
 rcases hcase with ⟨hon, hw, hv, hst⟩ | ⟨hon, hw, hop⟩
 ·have hg : (compIns P os o).guard.isSome = true := by
   cases hg : (compIns P os o).guard with
   | none => simp [wantedA, hg] at hw
   | some _ => rfl
  have hwr := wanted_real (P := P) (ops := os) rfl (.inr hg) j.env
  rw [if_neg (by rw [hwr, hwant, hw]; simp)]
  refine ⟨fun _ _ => trivial, ?_⟩
  have := hk _ _ _ _ hcan' (j.quiet R u hst (by unfold madeBy; split <;> simp_all) (by rw [hv]; simp [AV.undef, AV.inD, allD]))
  rw [hv, real_undef, hdst] at this
  exact this
 ·have hnb : (compIns P os o).op ≠ .bad := by
   intro hb; rw [hb] at hop; exact hop
  have hwr := wanted_real (P := P) (ops := os) rfl (.inl hnb) j.env
  have hc := ((compIns_inv (P := P) (ops := os) (o := o) rfl).2 (.inl hnb)).1
  rw [if_pos (by rw [hwr, hwant, hw])]
  have hv2 : m.vals = (compIns P os o).args.map (envOf S l tr e).ev := by rw [hvals]; exact hmv
  have heff : isEff (compIns P os o).op = true → o.wpIn (FW ro) n P a w K Q := by
   intro he
   refine j.effect R u he hc hdst hmv hop ?_
   intro ρ' w' hj
   rw [he] at hcan'
   exact hk _ _ _ _ hcan' hj
  have hquiet : heapAt tr h' (i + 1) = heapAt tr h' i → madeBy (compIns P os o) m = none → isEff (compIns P os o).op = false → m.v.inD (DS D l tr h' S) → K (a.put o.dst (real ρ m.v)) w := by
   intro hst hmb he hv
   have := hk _ _ _ _ hcan' (j.quiet R u hst hmb hv)
   rw [hdst] at this
   exact this
  generalize hq : compIns P os o = q at *
  obtain ⟨qd, qg, qop, qargs⟩ := q
  simp only at *
  cases qop with
  | p p =>
   obtain ⟨hp, hst⟩ := hop
   rw [hv2] at hp
   have := pI_sound (w := w) j.env hc hp
   refine wpIn_of hc ?_
   rw [this.1]
   exact hquiet hst (by simp [madeBy]) rfl this.2
  | r r =>
   obtain ⟨hp, hst⟩ := hop
   have hed' := edges_of hed (i := i) (o := o) (by simpa using ho)
   have hr := j.read R u (o := r) rfl hon hed'.2.2 (fun p hp' hb => by
    obtain ⟨y, hy, _⟩ := mem_effsOf.1 hp'
    have hlt : p < os.toList.length := by
     have := (List.getElem?_eq_some_iff.1 hy).1
     rw [Array.length_toList]
     omega
    exact (edges_of hed (i := p) (o := os.toList[p]) (List.getElem?_eq_getElem hlt)).2.2 i hb) hcan hreads hp
   rw [hv2] at hr
   have := rI_sound j.env j.inv hc hr
   refine wpIn_of hc ?_
   rw [this.1]
   exact hquiet hst (by simp [madeBy]) rfl this.2
  | a o' =>
   obtain ⟨bk, f, hp, hmv', hst⟩ := hop
   have hmb : madeBy ⟨qd, qg, .a o', qargs⟩ m = some bk := by simp [madeBy, hon, hp]
   rw [hv2] at hp
   obtain ⟨obj, hrun, hblk, hf⟩ := aI_sound (H0 := H0) (w := w) j.env hc hp
   have hid : DS D l tr h' (plus1 S i) (heapAt tr h' i).next := by
    refine (DS_plus1 u.lt _).2 (.inr ⟨Nat.le_refl _, ?_⟩)
    rw [hst]; simp
   have hja := j.alloc R u hmb (obj := obj) (fun ρ' D' h1 h2 => hblk ρ' D' h1 h2 j.inv.low) (by rw [hmv']; exact hf _ _ hid)
   have := hk _ _ _ _ hcan hja
   refine wpIn_of hc ?_
   rw [hrun (heapAt tr h' i).next _ (upd_self _ _ _), ← hmv']
   show K (a.put o.dst _) _
   rw [← hdst]
   exact this
  | bad => exact hop.elim
  | e o' => exact heff rfl
  | call => exact heff rfl
  | invoke s => exact heff rfl
  | panic => exact heff rfl

theorem draw_any (R : Rg P H0 D N l bs e h tr e' h') {os : Array Oper} (hos : os.toList.map (compIns P os) = l) (hed : edgesOk bs os.toList = true)
  (hreads : readsOk (heapU l tr h') l ((List.range l.length).map (window bs l (effsOf l))) tr) {Q : Exit → Act → World → Prop}
  (hQ : ∀ ρ' a' w', Inv P H0 ρ' (grow D h.next h'.next) h' w' → Ext ρ0 D h w0 ρ' h' w' → EInv ρ' (grow D h.next h'.next) N e' a' → a'.defers = a0.defers → Q .normal a' w') :
  ∀ (fuel : Nat) (listed : Array Bool) (c : Nat) (ρ : Rho) (a : Act) (w : World), listed.size = os.size → c ∈ 0 :: (effsOf l).map (· + 1) →
   J P H0 D N l bs e h tr h' ρ0 w0 a0 (fun j => listed.getD j false) c ρ a w → os.size ≤ fuel + cnt (fun j => listed.getD j false) os.size →
   wpAnyIn (FW ro) n P .any os Q fuel listed a w := by
 have hlen : l.length = os.size := by rw [← hos]; simp
 intro fuel
 induction fuel with
 | zero =>
  intro listed c ρ a w hsz hcan hj hcnt
  have hall : ∀ k, k < os.size → listed.getD k false = true := cnt_full (fun j => listed.getD j false) os.size (by omega)
  refine ⟨?_, ?_⟩
  ·rw [List.eq_nil_iff_forall_not_mem]
   intro i hi
   obtain ⟨h1, o, ho, _⟩ := mem_ready.1 hi
   have hlt := (Array.getElem?_eq_some_iff.1 ho).1
   have := hall i hlt
   simp [Array.getD_eq_getD_getElem?, hsz, hlt] at h1 this
   rw [h1] at this; simp at this
  ·obtain ⟨g1, g2, g3, g4⟩ := hj.finish R (fun k hk => hall k (by omega))
   exact hQ ρ a w g1 g2 g3 g4
 | succ fuel ih =>
  intro listed c ρ a w hsz hcan hj hcnt
  refine ⟨fun hr => ?_, fun i hi => ?_⟩
  ·
   have hall : ∀ k, k < os.size → listed.getD k false = true := by
    intro k
    induction k using Nat.strongRecOn with
    | _ k ihk =>
     intro hk
     cases hs : listed.getD k false with
     | true => rfl
     | false =>
      have hmem : k ∈ Region.ready .any os listed := by
       rw [mem_ready]
       refine ⟨by simp [Array.getD_eq_getD_getElem?, hsz, hk] at hs ⊢; exact hs, os[k], by simp [hk], fun ed hed' hb => ?_⟩
       have hlt := (edges_of hed (i := k) (o := os[k]) (by simp [hk])).2.1 ed (by simpa using hed') hb
       exact ihk ed.on hlt (by omega)
      rw [hr] at hmem
      simp at hmem
   obtain ⟨g1, g2, g3, g4⟩ := hj.finish R (fun k hk => hall k (by omega))
   exact hQ ρ a w g1 g2 g3 g4
  ·obtain ⟨h1, o, ho, hafter⟩ := mem_ready.1 hi
   have hlt := (Array.getElem?_eq_some_iff.1 ho).1
   have hsi : listed.getD i false = false := by
    simp [Array.getD_eq_getD_getElem?, hsz, hlt] at h1 ⊢
    exact h1
   have hS : (fun j => (listed.setIfInBounds i true).getD j false) = plus1 (fun j => listed.getD j false) i := by
    funext k
    by_cases hk : k = i
    ·subst hk
     simp [plus1, Array.getD_eq_getD_getElem?, hsz, hlt]
    ·simp only [plus1, hk, decide_false, Bool.or_false]
     exact getD_set_ne false (fun e => hk e.symm)
   refine draw_step R (fun i o ho _ => by rw [← hos, List.getElem?_map]; simp [ho]) (by omega) (by omega) hed hreads hj hcan ho hsi ?_ ?_
   ·intro k hb
    obtain ⟨ed, hed', hbi, hon⟩ := (edges_of hed (i := i) (o := o) (by simpa using ho)).1 k hb
    have := hafter ed (by simpa using hed') hbi
    rcases hon with rfl | hon
    ·exact this
    ·exact hj.closed _ this k hon
   ·intro c' ρ' a' w' hc' hj'
    refine ih (listed.setIfInBounds i true) c' ρ' a' w' (by simp [hsz]) hc' (by rw [hS]; exact hj') ?_
    rw [hS, cnt_plus1 (S := fun j => listed.getD j false) hsi]
    simp only [hlt, decide_true, cond_true]
    omega
end

section
variable {P : Program} {H0 : Nat} {e e' : Env} {h h' : Heap} {rd : Bool}

theorem sem_dops (hmix : P.follows .mixedOrders = true) {l : List Ins} {win : List (List Nat)} {tr : List Mark1} (hot : OT P H0 l e h tr e' h') (hreg : regionOk l win tr h') :
  CodeSem P H0 rd (.dops l win) e h .normal e' h' := by
 refine codeSem_of fun code hs hc N hN ro hro ρ D w a W0 n tl hi he hm hW => ?_
 obtain ⟨idr, os, rfl, hos, hpairs, hedges, rfl⟩ := compCode_dops hs hc
 have R : Rg P H0 D N l (befores os) e h tr e' h' := ⟨hot, hot.tra hos hN hi he, hi.lt, pairs_of hpairs, hN⟩
 refine wpIn_region_any hmix ?_
 have hi' : Inv P H0 ρ D h { w with drawn := w.drawn + 1 } := by
  refine ⟨hi.lt, hi.top, hi.low, fun b x hb hx => ?_, hi.apart⟩
  exact blkReal_keep (hi.blk b x hb hx) (fun _ => id) (fun _ _ => rfl) rfl
 have hS : (fun j => (Array.replicate os.size false).getD j false) = fun _ => false := by
  funext k
  simp [Array.getD_eq_getD_getElem?, Array.getElem?_replicate]
  split <;> simp
 have hst := J.start R hi' he
 rw [← hS] at hst
 refine draw_any R hos hedges hreg ?_ os.size _ 0 _ a _ (by simp) (by simp) hst (by omega)
 intro ρ' a' w' g1 g2 g3 g4
 have g2' : Ext ρ D h w ρ' h' w' := ⟨g2.next, g2.agree, g2.size, g2.frame, g2.aframe, g2.old, g2.fresh, g2.tape, g2.os, g2.output⟩
 exact ⟨ρ', rfl, g1, g2', g3, by rw [g4]; exact hm.ext hi.lt g2', fun _ => g4⟩

/- THE LAST ONE PANICS. -/

theorem edges_conv {bs : List Nat} {os : List Oper} (hp : edgesOk bs os = true) {i : Nat} {o : Oper} (ho : os[i]? = some o) {j : Nat} {ed : Edge} (hed : ed ∈ o.after.toList) (hb : Region.binds .any ed = true) (hj : ed.on = j ∨ Bef bs ed.on j) : Bef bs i j := by
 have h1 := allIdx_get hp ho
 simp only [Nat.zero_add, Bool.and_eq_true, decide_eq_true_eq] at h1
 have h2 := Nat.eq_of_beq_eq_true h1.2
 unfold Bef at *
 rw [h2, fold_bits (fun ed => Region.binds .any ed) (fun ed => bs.getD ed.on 0) (fun ed => ed.on) j o.after.toList 0, Nat.zero_testBit, Bool.false_or, List.any_eq_true]
 refine ⟨ed, hed, ?_⟩
 rcases hj with hj | hj
 ·simp [hb, hj]
 ·simp only [hb, hj, Bool.or_true, Bool.and_self]

theorem bef_trans {bs : List Nat} {os : List Oper} (hp : edgesOk bs os = true) : ∀ (i : Nat), i < os.length → ∀ {k j : Nat}, Bef bs i k → Bef bs k j → Bef bs i j := by
 intro i
 induction i using Nat.strongRecOn with
 | _ i ih =>
  intro hi k j hk hj
  have ho : os[i]? = some os[i] := List.getElem?_eq_getElem hi
  obtain ⟨ed, h1, h2, h3⟩ := (edges_of hp ho).1 k hk
  have hlt := (edges_of hp ho).2.1 ed h1 h2
  refine edges_conv hp ho h1 h2 (.inr ?_)
  rcases h3 with h3 | h3
  ·rw [h3]; exact hj
  ·exact ih ed.on hlt (by omega) h3 hj

theorem linked_at {y : Ins} : ∀ {r : List Ins}, linked y r = true → ∃ (k : Nat) (z : Ins), r[k]? = some z ∧ ((isEff y.op = true ∧ isEff z.op = true) ∨ apartI y z = false)
 | [], h => by simp [linked] at h
 | z :: r, h => by
  simp only [linked, Bool.or_eq_true, Bool.and_eq_true, Bool.not_eq_true'] at h
  rcases h with (h | h) | h
  ·exact ⟨0, z, rfl, .inl h⟩
  ·exact ⟨0, z, rfl, .inr h⟩
  ·obtain ⟨k, z', h1, h2⟩ := linked_at h
   exact ⟨k + 1, z', h1, h2⟩

theorem lastOk_at : ∀ {l : List Ins}, lastOk l = true → ∀ {j : Nat} {y : Ins}, l[j]? = some y → j + 1 < l.length → ∃ (k : Nat) (z : Ins), j < k ∧ l[k]? = some z ∧ ((isEff y.op = true ∧ isEff z.op = true) ∨ apartI y z = false)
 | [], _, j, y, hy, hlt => by simp at hlt
 | [_], _, j, y, hy, hlt => by simp at hlt
 | y0 :: z0 :: r, h, j, y, hy, hlt => by
  simp only [lastOk, Bool.and_eq_true] at h
  cases j with
  | zero =>
   simp only [List.getElem?_cons_zero, Option.some.injEq] at hy
   subst hy
   obtain ⟨k, z, h1, h2⟩ := linked_at h.1
   exact ⟨k + 1, z, by omega, by rw [List.getElem?_cons_succ]; exact h1, h2⟩
  | succ j =>
   rw [List.getElem?_cons_succ] at hy
   obtain ⟨k, z, h1, h2, h3⟩ := lastOk_at h.2 hy (by simp only [List.length_cons] at hlt ⊢; omega)
   exact ⟨k + 1, z, by omega, by rw [List.getElem?_cons_succ]; exact h2, h3⟩

theorem last_bef {bs : List Nat} {os : List Oper} {l : List Ins} (hpairs : pairsOk bs l = true) (hed : edgesOk bs os = true) (hlen : os.length = l.length) (hl : lastOk l = true) {n : Nat} (hn : n + 1 = l.length) :
  ∀ (d j : Nat), j + d = n → j < n → Bef bs n j := by
 intro d
 induction d using Nat.strongRecOn with
 | _ d ih =>
  intro j hd hj
  have hy : l[j]? = some l[j] := List.getElem?_eq_getElem (by omega)
  obtain ⟨k, z, h1, h2, h3⟩ := lastOk_at hl hy (by omega)
  have hk := (List.getElem?_eq_some_iff.1 h2).1
  have hb : Bef bs k j := by
   rcases pairs_of hpairs j k _ _ h1 hy h2 with hb | ⟨hb1, hb2⟩
   ·exact hb
   ·rcases h3 with h3 | h3
    ·exact absurd h3 hb1
    ·rw [h3] at hb2; simp at hb2
  by_cases hkn : k = n
  ·rw [← hkn]; exact hb
  ·have := ih (n - k) (by omega) k (by omega) (by omega)
   exact bef_trans hed n (by omega) this hb

theorem window_init {bs : List Nat} {l1 : List Ins} {i0 : Ins} (heff : isEff i0.op = true) (hback : ∀ j, j < l1.length → ¬ Bef bs j l1.length) (hb : ∀ j, j < l1.length → Bef bs l1.length j) :
  ((List.range (l1 ++ [i0]).length).map (window bs (l1 ++ [i0]) (effsOf (l1 ++ [i0])))).take l1.length = (List.range l1.length).map (window bs l1 (effsOf l1)) := by
 have heffs : effsOf (l1 ++ [i0]) = effsOf l1 ++ [l1.length] := by
  unfold effsOf
  rw [List.length_append, List.length_singleton, List.range_succ, List.filter_append]
  congr 1
  ·refine List.filter_congr fun k hk => ?_
   rw [List.mem_range] at hk
   rw [List.getElem?_append_left hk]
  ·simp [heff]
 rw [← List.map_take, List.length_append, List.length_singleton, List.take_range, Nat.min_eq_left (by omega)]
 refine List.map_congr_left fun j hj => ?_
 rw [List.mem_range] at hj
 have hcuts : cutsOf bs (l1 ++ [i0]) (effsOf l1 ++ [l1.length]) j = cutsOf bs l1 (effsOf l1) j := by
  unfold cutsOf
  rw [List.map_append, ← List.cons_append, List.filter_append]
  have h1 : List.filter (mayAt bs (effsOf l1 ++ [l1.length]) j) (0 :: (effsOf l1).map (· + 1)) = List.filter (mayAt bs (effsOf l1) j) (0 :: (effsOf l1).map (· + 1)) := by
   refine List.filter_congr fun c hc => ?_
   have hcl : c ≤ l1.length := by
    rcases List.mem_cons.1 hc with rfl | hc
    ·omega
    ·obtain ⟨p, hp, rfl⟩ := List.mem_map.1 hc
     obtain ⟨y, hy, _⟩ := mem_effsOf.1 hp
     exact (List.getElem?_eq_some_iff.1 hy).1
   have hf : (bs.getD j 0).testBit l1.length = false := by
    have := hback j hj
    unfold Bef at this
    simpa using this
   unfold mayAt
   rw [List.all_append]
   simp only [List.all_cons, List.all_nil, hf, Bool.not_false, Bool.true_or, Bool.true_and, Bool.and_true, show ¬ (l1.length < c) by omega, decide_false, Bool.or_true]
  have h2 : List.filter (mayAt bs (effsOf l1 ++ [l1.length]) j) (List.map (· + 1) [l1.length]) = [] := by
   have hbj : (bs.getD l1.length 0).testBit j = true := hb j hj
   have : mayAt bs (effsOf l1 ++ [l1.length]) j (l1.length + 1) = false := by
    unfold mayAt
    rw [List.all_append]
    simp only [List.all_cons, List.all_nil, hbj, Bool.not_true, Bool.false_or, Bool.and_true, Nat.lt_succ_self, decide_true, Bool.not_true, Bool.and_false]
   simp [this]
  rw [h1, h2, List.append_nil]
 unfold window
 rw [heffs, List.getElem?_append_left hj]
 cases l1[j]? with
 | none => rfl
 | some x => simp only [hcuts]

theorem draw_anyP {D : Dom} {N n : Nat} {l1 : List Ins} {i0 : Ins} {bs : List Nat} {tr : List Mark1} {ρ0 : Rho} {w0 : World} {a0 : Act} {ro : Option Nat} {v : AV} {h2 : Heap} (R : Rg P H0 D N l1 bs e h tr e' h') {os : Array Oper} (hos : os.toList.map (compIns P os) = l1 ++ [i0]) (hed : edgesOk bs os.toList = true)
  (hreads : readsOk (heapU l1 tr h') l1 ((List.range l1.length).map (window bs l1 (effsOf l1))) tr) (hb : ∀ j, j < l1.length → Bef bs l1.length j) (hw0 : wantedA i0 e' = true) (hnb : i0.op ≠ .bad) (hop : OpSemP P H0 i0.op (i0.args.map e'.ev) h' v h2)
  {Q : Exit → Act → World → Prop}
  (hQ : ∀ ρ' a' w', Inv P H0 ρ' (grow D h.next h2.next) h2 w' → Ext ρ0 D h w0 ρ' h2 w' → EInv ρ' (grow D h.next h2.next) N e' a' → a'.defers = a0.defers → v.inD (grow D h.next h2.next) → Q (.panic [{ v := real ρ' v, recovered := false }]) a' w') :
  ∀ (fuel : Nat) (listed : Array Bool) (c : Nat) (ρ : Rho) (a : Act) (w : World), listed.size = os.size → c ∈ 0 :: (effsOf l1).map (· + 1) → listed.getD l1.length false = false →
   J P H0 D N l1 bs e h tr h' ρ0 w0 a0 (fun j => listed.getD j false) c ρ a w → os.size ≤ fuel + cnt (fun j => listed.getD j false) os.size →
   wpAnyIn (FW ro) n P .any os Q fuel listed a w := by
 have hlen : os.size = l1.length + 1 := by have h := congrArg List.length hos; simpa using h
 have hnot : ∀ (S : Nat → Bool), S l1.length = false → cnt S os.size ≤ l1.length := by
  intro S hS
  rw [hlen]
  simp only [cnt, hS, cond_false]
  exact cnt_le S _
 have hat : ∀ i o, os[i]? = some o → (l1 ++ [i0])[i]? = some (compIns P os o) := fun i o ho => by rw [← hos, List.getElem?_map, Array.getElem?_toList, ho]; rfl
 intro fuel
 induction fuel with
 | zero =>
  intro listed c ρ a w hsz hcan hnl hj hcnt
  have := hnot (fun j => listed.getD j false) hnl
  omega
 | succ fuel ih =>
  intro listed c ρ a w hsz hcan hnl hj hcnt
  refine ⟨fun hr => ?_, fun i hi => ?_⟩
  ·exfalso
   have hall : ∀ k, k < os.size → listed.getD k false = true := by
    intro k
    induction k using Nat.strongRecOn with
    | _ k ihk =>
     intro hk
     cases hs : listed.getD k false with
     | true => rfl
     | false =>
      have hmem : k ∈ Region.ready .any os listed := by
       rw [mem_ready]
       refine ⟨by simp [Array.getD_eq_getD_getElem?, hsz, hk] at hs ⊢; exact hs, os[k], by simp [hk], fun ed hed' hb => ?_⟩
       have hlt := (edges_of hed (i := k) (o := os[k]) (by simp [hk])).2.1 ed (by simpa using hed') hb
       exact ihk ed.on hlt (by omega)
      rw [hr] at hmem
      simp at hmem
   rw [hall l1.length (by omega)] at hnl
   simp at hnl
  ·obtain ⟨h1, o, ho, hafter⟩ := mem_ready.1 hi
   have hlt := (Array.getElem?_eq_some_iff.1 ho).1
   have hsi : listed.getD i false = false := by
    simp [Array.getD_eq_getD_getElem?, hsz, hlt] at h1 ⊢
    exact h1
   have hS : (fun j => (listed.setIfInBounds i true).getD j false) = plus1 (fun j => listed.getD j false) i := by
    funext k
    by_cases hk : k = i
    ·subst hk
     simp [plus1, Array.getD_eq_getD_getElem?, hsz, hlt]
    ·simp only [plus1, hk, decide_false, Bool.or_false]
     exact getD_set_ne false (fun e => hk e.symm)
   by_cases hil : i < l1.length
   ·refine draw_step R (fun i o ho hi => by have hh := hat i o ho; rw [List.getElem?_append_left hi] at hh; exact hh) (by omega) hil hed hreads hj hcan ho hsi ?_ ?_
    ·intro k hb
     obtain ⟨ed, hed', hbi, hon⟩ := (edges_of hed (i := i) (o := o) (by simpa using ho)).1 k hb
     have := hafter ed (by simpa using hed') hbi
     rcases hon with rfl | hon
     ·exact this
     ·exact hj.closed _ this k hon
    ·intro c' ρ' a' w' hc' hj'
     refine ih (listed.setIfInBounds i true) c' ρ' a' w' (by simp [hsz]) hc' (by rw [getD_set_ne false (by omega)]; exact hnl) (by rw [hS]; exact hj') ?_
     rw [hS, cnt_plus1 (S := fun j => listed.getD j false) hsi]
     simp only [hlt, decide_true, cond_true]
     omega
   ·have hin : i = l1.length := by omega
    subst hin
    have hall : ∀ k, k < l1.length → listed.getD k false = true := by
     intro k hk
     obtain ⟨ed, hed', hbi, hon⟩ := (edges_of hed (i := l1.length) (o := o) (by simpa using ho)).1 k (hb k hk)
     have := hafter ed (by simpa using hed') hbi
     rcases hon with rfl | hon
     ·exact this
     ·exact hj.closed _ this k hon
    obtain ⟨g1, g2, g3, g4⟩ := hj.finish R hall
    have hci : compIns P os o = i0 := by
     have := hat _ o ho
     rw [List.getElem?_append_right (Nat.le_refl _)] at this
     simpa using this.symm
    have hwr := wanted_real hci (.inl hnb) g3
    have hc := ((compIns_inv hci).2 (.inl hnb)).1
    unfold wpOpIn
    rw [ho]
    simp only
    rw [if_pos (by rw [hwr, hw0])]
    refine hop o i0.args hc ρ _ w a N e' ro n g1 g3 rfl _ _ ?_
    intro ρ' w' k1 k2 k3
    have hn1 := g2.next
    have hn2 := k2.next
    have k4 := g3.mono (ρ' := ρ') (D' := grow (grow D h.next h'.next) h'.next h2.next) k2.agree (fun _ => .inl)
    rw [grow_grow D hn1 hn2] at k1 k3 k4
    exact hQ ρ' a w' k1 (Ext.trans R.dlt g2 k2) k4 g4 k3

theorem sem_dopsP (hmix : P.follows .mixedOrders = true) {l1 : List Ins} {i0 : Ins} {win : List (List Nat)} {tr : List Mark1} {v : AV} {h2 : Heap} (hot : OT P H0 l1 e h tr e' h') (hreg : regionOk l1 (win.take l1.length) tr h') (hlast : lastOk (l1 ++ [i0]) = true) (heff : isEff i0.op = true)
  (hw0 : wantedA i0 e' = true) (hop : i0.op ≠ .bad ∧ OpSemP P H0 i0.op (i0.args.map e'.ev) h' v h2) : CodeSem P H0 rd (.dops (l1 ++ [i0]) win) e h (.panic v) e' h2 := by
 refine codeSem_of fun code hs hc N hN ro hro ρ D w a W0 n tl hi he hm hW => ?_
 obtain ⟨idr, os, rfl, hos, hpairs, hedges, rfl⟩ := compCode_dops hs hc
 have hN' : opsOk N (l1 ++ [i0]) = true := hN
 rw [opsOk_app, Bool.and_eq_true] at hN'
 have hlen : os.size = l1.length + 1 := by have := congrArg List.length hos; simpa using this
 have hb := fun j hj => last_bef hpairs hedges (by simpa using hlen) hlast (n := l1.length) (by simp) (l1.length - j) j (by omega) hj
 have hback : ∀ j, j < l1.length → ¬ Bef (befores os) j l1.length := by
  intro j hj hbj
  have := (edges_of hedges (i := j) (o := os.toList[j]'(by simp; omega)) (List.getElem?_eq_getElem _)).2.2 _ hbj
  omega
 rw [window_init heff hback hb] at hreg
 have hpre : (os.toList.take l1.length).map (compIns P os) = l1 := by rw [List.map_take, hos]; simp
 have R : Rg P H0 D N l1 (befores os) e h tr e' h' := ⟨hot, hot.tra hpre hN'.1 hi he, hi.lt, fun i j x y hij hx hy => pairs_of hpairs i j x y hij (by rw [List.getElem?_append_left (List.getElem?_eq_some_iff.1 hx).1]; exact hx) (by rw [List.getElem?_append_left (List.getElem?_eq_some_iff.1 hy).1]; exact hy), hN'.1⟩
 refine wpIn_region_any hmix ?_
 have hi' : Inv P H0 ρ D h { w with drawn := w.drawn + 1 } := by
  refine ⟨hi.lt, hi.top, hi.low, fun b x hb hx => ?_, hi.apart⟩
  exact blkReal_keep (hi.blk b x hb hx) (fun _ => id) (fun _ _ => rfl) rfl
 have hS : (fun j => (Array.replicate os.size false).getD j false) = fun _ => false := by
  funext k
  simp [Array.getD_eq_getD_getElem?, Array.getElem?_replicate]
  split <;> simp
 have hst := J.start R hi' he
 rw [← hS] at hst
 refine draw_anyP R hos hedges hreg hb hw0 hop.1 hop.2 ?_ os.size _ 0 _ a _ (by simp) (by simp) (congrFun hS _) hst (by omega)
 intro ρ' a' w' g1 g2 g3 g4 g5
 have g2' : Ext ρ D h w ρ' h2 w' := ⟨g2.next, g2.agree, g2.size, g2.frame, g2.aframe, g2.old, g2.fresh, g2.tape, g2.os, g2.output⟩
 exact ⟨ρ', ⟨rfl, g5⟩, g1, g2', g3, by rw [g4]; exact hm.ext hi.lt g2', fun _ => g4⟩
end
end Ads
end Go.Proofs.Ytlndlbngfgaoeaa

