/-
  Local: of a partition that passes the test there is slack at all numbers of ticks.
-/
import Derived.Test.YtlndlbngfgaoeaaZA
import Derived.Test.YtlndlbngfgaoeaaVDelS
import Derived.Test.YtlndlbngfgaoeaaVDem
set_option maxRecDepth 100000
set_option linter.unusedSimpArgs false
set_option linter.unusedVariables false
namespace Go.Proofs.Ytlndlbngfgaoeaa
open Go Ads
namespace Ir

theorem waitN_few {l : List Pt} (h : delCheck l = 0) (a : Nat) (g : Int) : ∀ j, j ≤ l.length → waitN l (a : Nat) g j ≤ 128 * (if a < j then (j : Int) - 1 else (j : Int))
 | 0, _ => by simp [waitN]
 | j + 1, hj => by
  have ih := waitN_few h a g j (by omega)
  have hp := ((ok_in h).2 _ (List.getElem_mem (show j < l.length by omega))).1
  unfold partIn at hp
  rw [waitN_sum h _ _ j (by omega)]
  by_cases hc : (j : Int) ≠ (a : Nat) ∧ usesP l[j] g = true
  ·rw [if_pos hc]
   have hja := hc.1
   by_cases h1 : a < j
   ·rw [if_pos h1] at ih
    rw [if_pos (by omega)]
    omega
   ·rw [if_neg h1] at ih
    rw [if_neg (by omega)]
    omega
  ·rw [if_neg hc]
   by_cases h1 : a < j
   ·rw [if_pos h1] at ih
    rw [if_pos (by omega)]
    omega
   ·rw [if_neg h1] at ih
    by_cases h2 : a < j + 1
    ·rw [if_pos h2]; omega
    ·rw [if_neg h2]; omega
theorem waitS_few {l : List Pt} (h : delCheck l = 0) (a : Nat) (ha : a < l.length) (t : Tk) : 0 ≤ waitS l (a : Nat) t ∧ waitS l (a : Nat) t ≤ 384 := by
 refine ⟨(waitS_in h _ t).1, ?_⟩
 unfold waitS
 split
 ·omega
 ·have := waitN_few h a t.c l.length (Nat.le_refl _)
  rw [if_pos ha] at this
  have := (ok_in h).1
  omega
theorem more_in {l : List Pt} (h : delCheck l = 0) (a : Nat) (ha : a < l.length) {t : Tk} (ht : t ∈ l[a].ts) : 0 ≤ moreOne l (a : Nat) t ∧ moreOne l (a : Nat) t ≤ 32768 := by
 have hx : l[a] ∈ l := List.getElem_mem ha
 have h1 := tk_in h hx ht
 have h2 := e_in h hx ht
 have h3 := f_in h hx ht
 have h4 := waitS_few h a ha t
 rw [moreOne_eq h _ t h2 h3]
 rcases h1.2.2.2.2.2 with h5 | h5
 ·rw [h5.2.2]; simp
 ·have e1 : t.f * (waitS l (a : Nat) t + t.e - 1) = t.f * waitS l (a : Nat) t + (t.e * t.f - t.f) := by
   rw [Int.mul_sub, Int.mul_add, Int.mul_comm t.f t.e]; omega
  have e2 : 0 ≤ t.f * waitS l (a : Nat) t := Int.mul_nonneg h3.1 h4.1
  have e3 : t.f * waitS l (a : Nat) t ≤ 64 * 384 := Int.mul_le_mul h3.2 h4.2 h4.1 (by omega)
  have e4 : 1 * t.f ≤ t.e * t.f := Int.mul_le_mul_of_nonneg_right (by omega) (by omega)
  omega
theorem moreL_in {l : List Pt} (h : delCheck l = 0) (a : Nat) (ha : a < l.length) : ∀ m, m ∈ moreL l a → 0 ≤ m ∧ m ≤ 32768 := by
 intro m hm
 rw [moreL, List.getElem?_eq_getElem ha] at hm
 obtain ⟨t, ht, rfl⟩ := List.mem_map.1 hm
 exact more_in h a ha ht
theorem okT_of {l : List Pt} (h : delCheck l = 0) {x : Pt} (hx : x ∈ l) : ∀ t, t ∈ x.ts → OkT t := fun t ht => taskOk_in (((ok_in h).2 x hx).2.2 t ht).1

theorem ofN_le {l : List Pt} (a n C : Int) (hC : 0 ≤ C) (ts : List Tk) (hb : ∀ t, t ∈ ts → byOne l a t ≤ C) : ∀ j, j ≤ ts.length → ofN l a n ts j ≤ C
 | 0, _ => by simpa [ofN] using hC
 | j + 1, hj => by
  have hlt : j < ts.length := by omega
  have ih := ofN_le a n C hC ts hb j (by omega)
  have := hb _ (List.getElem_mem hlt)
  rw [ofN_next hlt]
  split
  ·rw [mx_max]; omega
  ·exact ih
theorem byOne_le {l : List Pt} (h : delCheck l = 0) (a : Int) {x : Pt} (hx : x ∈ l) {t : Tk} (ht : t ∈ x.ts) : byOne l a t ≤ 1000 := by
 have h1 := tk_in h hx ht
 have h2 := e_in h hx ht
 have h3 := waitS_in h a t
 unfold byOne
 split
 ·omega
 ·rw [mx_max, waitMore_eq h a t h2]
  omega

theorem slack_plain {l : List Pt} (h : delCheck l = 0) {i : Nat} (hi : i < l.length) {n : Int} (h0 : 0 ≤ n) (h1 : n ≤ 1048576) :
  asksI l[i] (moreL l i) n = (askP (jobsP n) l[i].ts (moreL l i)).sum ∧
  slackI l[i] l (i : Nat) (moreL l i) n = givesS l[i].per l[i].bud n - (askP (jobsP n) l[i].ts (moreL l i)).sum - ofN l (i : Nat) n l[i].ts l[i].ts.length := by
 have hx : l[i] ∈ l := List.getElem_mem hi
 have hok := (ok_in h).2 _ hx
 have hp := hok.1
 unfold partIn at hp
 have hd := dOf_ok (okT_of h hx) hok.2.1 (moreL_in h i hi) (moreL_len hi) h0 h1
 have hA : asksI l[i] (moreL l i) n = (askP (jobsP n) l[i].ts (moreL l i)).sum := by rw [asksI, hd]
 refine ⟨hA, ?_⟩
 have hs := sum_le (q := jobsP n) (l := l[i].ts) (a := moreL l i) (fun t ht => ⟨okT_of h hx t ht, by have := jobs_plain (okT_of h hx t ht) h0 h1; omega⟩) (moreL_in h i hi) (by omega)
 have hg := gives_in l[i].per l[i].bud n hp h0 h1
 have ho := ofN_nonneg (l := l) (i : Nat) n l[i].ts l[i].ts.length (Nat.le_refl _)
 have ho2 := ofN_le (l := l) (i : Nat) n 1000 (by omega) l[i].ts (fun t ht => byOne_le h _ hx ht) l[i].ts.length (Nat.le_refl _)
 have hsup : supS l[i].per l[i].bud n = (givesS l[i].per l[i].bud n, 0) := by rw [supS, if_pos ⟨hp, h0, h1⟩]
 rw [slackI, hA, dOf9_ok h hi h0, hsup]
 simp only [sumW, List.foldl_cons, List.foldl_nil]
 generalize (askP (jobsP n) l[i].ts (moreL l i)).sum = A at *
 generalize ofN l (i : Nat) n l[i].ts l[i].ts.length = d at *
 generalize givesS l[i].per l[i].bud n = s at *
 rw [IntWalk.i64_in (0 - A) (by omega), IntWalk.i64_in (0 - d) (by omega), IntWalk.i64_in (0 + s) (by omega), IntWalk.i64_in (0 + s + _) (by omega), IntWalk.i64_in _ (by omega)]
 omega

theorem gives_hyper {p b n h : Int} (hs : srvIn p b) (hn : p - b ≤ n) (hd : p ∣ h) (hh : 0 ≤ h) : givesS p b (n + h) = givesS p b n + h / p * b := by
 unfold srvIn at hs
 obtain ⟨c, rfl⟩ := hd
 have hc : 0 ≤ c := by
  rcases Int.lt_or_le c 0 with h1 | h1
  ·have := Int.mul_neg_of_pos_of_neg (show 0 < p by omega) h1; omega
  ·exact h1
 rw [givesS, givesS, if_neg (by omega), if_neg (by omega), Int.mul_ediv_cancel_left c (by omega), show n + p * c - (p - b) = n - (p - b) + p * c by omega, Int.add_mul_ediv_left _ _ (by omega)]
 generalize (n - (p - b)) / p = z
 rw [Int.add_mul, Int.add_mul, Int.mul_comm c p]
 omega
theorem jobs_hyper1 {n h : Int} {t : Tk} (o : OkT t) (hn : t.d ≤ n) (hd : t.p ∣ h) (hh : 0 ≤ h) : jobsP (n + h) t = jobsP n t + h / t.p := by
 obtain ⟨o1, o2, o3, o4⟩ := o
 obtain ⟨c, rfl⟩ := hd
 rw [jobsP, jobsP, if_neg (by omega), if_neg (by omega), Int.mul_ediv_cancel_left c (by omega), show n + t.p * c - t.d = n - t.d + t.p * c by omega, Int.add_mul_ediv_left _ _ (by omega)]
 omega
theorem ask_zero {n : Int} : ∀ (l : List Tk) (a : List Int), (∀ t, t ∈ l → n < t.d) → (askP (jobsP n) l a).sum = 0
 | [], a, _ => by simp [askP]
 | t :: l, [], _ => by simp [askP]
 | t :: l, m :: a, h => by
  show (jobsP n t * (t.w + m) :: askP (jobsP n) l a).sum = 0
  rw [List.sum_cons, ask_zero l a fun u hu => h u (List.mem_cons_of_mem _ hu), jobsP, if_pos (h t List.mem_cons_self)]
  simp
theorem ask_pos {n : Int} (h0 : 0 ≤ n) : ∀ (l : List Tk) (a : List Int), a.length = l.length → (∀ t, t ∈ l → OkT t) → (∀ m, m ∈ a → 0 ≤ m) → 0 ≤ (askP (jobsP n) l a).sum ∧ ((∃ t, t ∈ l ∧ t.d ≤ n) → 0 < (askP (jobsP n) l a).sum)
 | [], a, _, _, _ => by simp [askP]
 | t :: l, [], hl, _, _ => by simp at hl
 | t :: l, m :: a, hl, ho, hm => by
  obtain ⟨i1, i2⟩ := ask_pos h0 l a (by simpa using hl) (fun u hu => ho u (List.mem_cons_of_mem _ hu)) (fun u hu => hm u (List.mem_cons_of_mem _ hu))
  obtain ⟨o1, o2, o3, o4⟩ := ho t List.mem_cons_self
  have hm0 := hm m List.mem_cons_self
  have hj : 0 ≤ jobsP n t := by
   unfold jobsP
   split
   ·omega
   ·have := Int.ediv_nonneg (a := n - t.d) (b := t.p) (by omega) (by omega); omega
  have hjw : 0 ≤ jobsP n t * (t.w + m) := Int.mul_nonneg hj (by omega)
  show 0 ≤ (jobsP n t * (t.w + m) :: askP (jobsP n) l a).sum ∧ (_ → 0 < (jobsP n t * (t.w + m) :: askP (jobsP n) l a).sum)
  rw [List.sum_cons]
  refine ⟨by omega, ?_⟩
  rintro ⟨u, hu, hd⟩
  rcases List.mem_cons.1 hu with rfl | hu
  ·have h1 : 1 ≤ jobsP n u := by
    unfold jobsP
    rw [if_neg (by omega)]
    have := Int.ediv_nonneg (a := n - u.d) (b := u.p) (by omega) (by omega); omega
   have h2 : 1 * 1 ≤ jobsP n u * (u.w + m) := Int.mul_le_mul h1 (by omega) (by omega) (by omega)
   omega
  ·have := i2 ⟨u, hu, hd⟩
   omega

theorem testS_ok {l : List Pt} (h : delCheck l = 0) {i : Nat} (hi : i < l.length) : testS l (i : Nat) = if l[i].ts.length = 0 then (0, 0) else testP l[i] l (i : Nat) (moreL l i) := by
 rw [testS, if_neg (by omega), if_neg (by omega), show ((i : Int)).toNat = i from rfl, List.getElem?_eq_getElem hi]

def Passes (l : List Pt) (i : Nat) (x : Pt) (M : List Int) : Prop :=
 ∃ H : Int, hypS x.ts x.per = (H, 0) ∧ 1 ≤ H ∧ H ≤ 4096 ∧ x.per ∣ H ∧ (∀ t, t ∈ x.ts → t.p ∣ H) ∧
  (askP (fun t => H / t.p) x.ts M).sum ≤ H / x.per * x.bud ∧ ∀ n : Nat, 1 ≤ n → (n : Int) ≤ H + farN x.ts x.ts.length + x.per + x.per → asksI x M n > 0 → 0 ≤ slackI x l (i : Nat) M n
theorem pass_iff {l : List Pt} (h : delCheck l = 0) {i : Nat} (hi : i < l.length) (hne : l[i].ts.length ≠ 0) : (testS l (i : Nat)).2 = 0 ↔ Passes l i l[i] (moreL l i) := by
 have hx : l[i] ∈ l := List.getElem_mem hi
 have hok := (ok_in h).2 _ hx
 have hp := hok.1
 unfold partIn at hp
 have hO := okT_of h hx
 rw [testS_ok h hi, if_neg hne]
 have hM := moreL_in h i hi
 have hml := moreL_len hi
 have hfar := farN_in (ts := l[i].ts) (fun t ht => by have := hO t ht; unfold OkT at this; omega) l[i].ts.length (Nat.le_refl _)
 generalize moreL l i = M at *
 generalize l[i] = x at *
 unfold testP Passes
 rcases hyp_le hO hok.2.1 hp.1 hp.2.1 with ⟨h1, h2, h3⟩ | h1
 ·have hdv := (hyp_dvd x.ts x.per.toNat (hypN x.ts x.per.toNat)).1 (Nat.dvd_refl _)
  have hd1 : x.per ∣ ((hypN x.ts x.per.toNat : Nat) : Int) := by
   have := Int.natCast_dvd_natCast.2 hdv.1
   rwa [Int.toNat_of_nonneg (by omega)] at this
  have hd2 : ∀ t, t ∈ x.ts → t.p ∣ ((hypN x.ts x.per.toNat : Nat) : Int) := by
   intro t ht
   have := Int.natCast_dvd_natCast.2 (hdv.2 t ht)
   have ho := hO t ht
   unfold OkT at ho
   rwa [Int.toNat_of_nonneg (by omega)] at this
  have hu := dUse_ok hO hok.2.1 hM hml (n := ((hypN x.ts x.per.toNat : Nat) : Int)) (by omega) (by omega) hd2
  have hH1 : 1 ≤ ((hypN x.ts x.per.toNat : Nat) : Int) := by omega
  have hH2 : ((hypN x.ts x.per.toNat : Nat) : Int) ≤ 4096 := by omega
  rw [h1]
  simp only
  rw [hu]
  generalize ((hypN x.ts x.per.toNat : Nat) : Int) = H at *
  have hq : H.tdiv x.per = H / x.per := Int.tdiv_eq_ediv_of_nonneg (by omega)
  have hq0 : 0 ≤ H / x.per := Int.ediv_nonneg (by omega) (by omega)
  have hq1 : H / x.per ≤ H := Int.ediv_le_self _ (by omega)
  have hqb : H / x.per * x.bud ≤ 4096 * 64 := Int.mul_le_mul (by omega) (by omega) (by omega) (by omega)
  have hqb0 : 0 ≤ H / x.per * x.bud := Int.mul_nonneg hq0 (by omega)
  have hE := endS_in (x := x) (h := H) (by omega) ⟨hfar.1, hfar.2.1⟩ ⟨hp.1, hp.2.1⟩
  rw [hq, IntWalk.i64_in (H / x.per) (by omega), IntWalk.i64_in _ (by omega), if_neg (by simp), hE]
  by_cases hus : (askP (fun t => H / t.p) x.ts M).sum > H / x.per * x.bud
  ·rw [if_pos hus]
   constructor
   ·intro hz; simp at hz
   ·rintro ⟨H', e1, -, -, -, -, e6, -⟩
    simp only [Prod.mk.injEq, and_true] at e1
    subst e1
    omega
  ·rw [if_neg hus]
   constructor
   ·intro hz
    refine ⟨H, rfl, by omega, by omega, hd1, hd2, by omega, ?_⟩
    cases hfb : firstBad (badB x l (i : Nat) M) 1 (H + farN x.ts x.ts.length + x.per + x.per).toNat with
    | some t => rw [hfb] at hz; simp at hz
    | none =>
     intro n n1 n2 hn
     have := firstBad_none hfb (n - 1) (by omega)
     rw [show 1 + (n - 1) = n by omega, badB, decide_eq_true hn, Bool.true_and] at this
     have := of_decide_eq_false this
     omega
   ·rintro ⟨H', e1, -, -, -, -, -, e7⟩
    simp only [Prod.mk.injEq, and_true] at e1
    subst e1
    cases hfb : firstBad (badB x l (i : Nat) M) 1 (H + farN x.ts x.ts.length + x.per + x.per).toNat with
    | none => rfl
    | some t =>
     exfalso
     obtain ⟨t1, t2, t3, -⟩ := firstBad_some hfb
     rw [badB, Bool.and_eq_true] at t3
     have a1 := of_decide_eq_true t3.1
     have a2 := of_decide_eq_true t3.2
     have := e7 t t1 (by omega) a1
     omega
 ·rw [h1]
  simp only
  rw [if_pos (by simp)]
  constructor
  ·intro hz; simp at hz
  ·rintro ⟨H', e1, -⟩
   simp at e1

theorem pass_all {l : List Pt} (h : delCheck l = 0) {i : Nat} (hi : i < l.length) (hpass : (testS l (i : Nat)).2 = 0) : ∀ n : Nat, n ≤ 1048576 → asksI l[i] (moreL l i) n > 0 → 0 ≤ slackI l[i] l (i : Nat) (moreL l i) n := by
 have hx : l[i] ∈ l := List.getElem_mem hi
 have hok := (ok_in h).2 _ hx
 have hp := hok.1
 unfold partIn at hp
 have hO := okT_of h hx
 have hM := moreL_in h i hi
 have hml := moreL_len hi
 have hsp : ∀ n : Nat, n ≤ 1048576 → _ := fun n hn => slack_plain h hi (n := (n : Nat)) (by omega) (by omega)
 by_cases hne : l[i].ts.length = 0
 ·intro n hn ha
  rw [(hsp n hn).1, List.length_eq_zero_iff.1 hne] at ha
  simp [askP] at ha
 ·obtain ⟨H, -, H1, H2, H3, H4, H5, H6⟩ := (pass_iff h hi hne).1 hpass
  have hfar := farN_in (ts := l[i].ts) (fun t ht => by have := hO t ht; unfold OkT at this; omega) l[i].ts.length (Nat.le_refl _)
  have hz : ∀ n : Int, farN l[i].ts l[i].ts.length ≤ n → ofN l (i : Nat) n l[i].ts l[i].ts.length = 0 := fun n hn => ofN_zero _ _ _ (fun t ht => by
   obtain ⟨j, hj, rfl⟩ := List.getElem_of_mem ht
   have := hfar.2.2 j hj hj
   omega) _ (Nat.le_refl _)
  have hone : ∃ t, t ∈ l[i].ts := ⟨_, List.getElem_mem (show 0 < l[i].ts.length by omega)⟩
  have hdl : ∀ t, t ∈ l[i].ts → t.d ≤ farN l[i].ts l[i].ts.length := fun t ht => by
   obtain ⟨j, hj, rfl⟩ := List.getElem_of_mem ht
   exact hfar.2.2 j hj hj
  intro n
  induction n using Nat.strongRecOn with
  | _ n ih =>
   intro hn ha
   by_cases hE : (n : Int) ≤ H + farN l[i].ts l[i].ts.length + l[i].per + l[i].per
   ·by_cases h0 : n = 0
    ·subst h0
     rw [(hsp 0 (by omega)).1, ask_zero l[i].ts _ (fun t ht => by have := hO t ht; unfold OkT at this; omega)] at ha
     omega
    ·exact H6 n (by omega) hE ha
   ·obtain ⟨k, hk⟩ : ∃ k : Nat, (k : Int) = n - H := ⟨(n - H).toNat, by omega⟩
    have hkn : k < n := by omega
    have hka : asksI l[i] (moreL l i) k > 0 := by
     rw [(hsp k (by omega)).1]
     obtain ⟨t, ht⟩ := hone
     exact (ask_pos (by omega) _ _ hml hO (fun m hm => (hM m hm).1)).2 ⟨t, ht, by have := hdl t ht; omega⟩
    have hkS := ih k hkn (by omega) hka
    rw [(hsp k (by omega)).2, hz _ (by omega)] at hkS
    rw [(hsp n hn).2, hz _ (by omega), show ((n : Nat) : Int) = (k : Int) + H by omega, gives_hyper hp (by omega) H3 (by omega)]
    rw [ask_add (q := jobsP ((k : Int) + H)) (r := jobsP (k : Int)) (s := fun t => H / t.p) l[i].ts (moreL l i) (fun t ht => jobs_hyper1 (hO t ht) (by have := hdl t ht; omega) (H4 t ht) (by omega))]
    omega
theorem testS_snd {l : List Pt} (h : delCheck l = 0) {i : Nat} (hi : i < l.length) : (testS l (i : Nat)).2 = 0 ∨ (testS l (i : Nat)).2 = 5 ∨ (testS l (i : Nat)).2 = 120 := by
 have hx : l[i] ∈ l := List.getElem_mem hi
 have hok := (ok_in h).2 _ hx
 have hp := hok.1
 unfold partIn at hp
 rw [testS_ok h hi]
 split
 ·exact .inl rfl
 ·unfold testP
  rcases hyp_le (okT_of h hx) hok.2.1 hp.1 hp.2.1 with ⟨h1, -, -⟩ | h1
  ·rw [h1]
   simp only
   rw [if_neg (by simp)]
   split
   ·exact .inr (.inr rfl)
   ·split
    ·exact .inr (.inr rfl)
    ·exact .inl rfl
  ·rw [h1]
   simp only
   rw [if_pos (by simp)]
   exact .inr (.inl rfl)

end Ir
end Go.Proofs.Ytlndlbngfgaoeaa
