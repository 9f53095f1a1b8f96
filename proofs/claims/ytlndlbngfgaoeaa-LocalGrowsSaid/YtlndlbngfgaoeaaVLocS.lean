/-
  Local: what makes a test easier.
-/
import Derived.Test.YtlndlbngfgaoeaaVLocP
set_option maxRecDepth 100000
set_option linter.unusedSimpArgs false
set_option linter.unusedVariables false
namespace Go.Proofs.Ytlndlbngfgaoeaa
open Go Ads
namespace Ir

theorem gives_mono {p b n : Int} (hs : srvIn p b) (hs' : srvIn p (b + 1)) (h0 : 0 ≤ n) (h1 : n ≤ 1048576) : givesS p b n ≤ givesS p (b + 1) n := by
 have hz := gives_in p (b + 1) n hs' h0 h1
 unfold srvIn at hs hs'
 by_cases hn : n < p - b
 ·rw [givesS, if_pos hn]; exact hz.1
 ·rw [givesS, givesS, if_neg hn, if_neg (by omega)]
  have e1 : n - (p - (b + 1)) = n - (p - b) + 1 := by omega
  rw [e1]
  generalize hm : n - (p - b) = m at *
  have m0 : 0 ≤ m := by omega
  have hd := Int.mul_ediv_add_emod m p
  have hr0 := Int.emod_nonneg m (show p ≠ 0 by omega)
  have hr1 := Int.emod_lt_of_pos m (show 0 < p by omega)
  have hq0 : 0 ≤ m / p := Int.ediv_nonneg m0 (by omega)
  have e2 : (m + 1) / p = m / p + (m % p + 1) / p := by
   have : m + 1 = (m % p + 1) + p * (m / p) := by omega
   rw [this, Int.add_mul_ediv_left _ _ (by omega)]
   have : (m % p + 1 + p * (m / p) - 1) = m := by omega
   omega
  generalize hq : m / p = q at *
  generalize m % p = r at *
  have e3 : q * (b + 1) = q * b + q := by rw [Int.mul_add]; omega
  have e4 : p * q = q * p := Int.mul_comm p q
  by_cases hr : r + 1 < p
  ·have : (r + 1) / p = 0 := Int.ediv_eq_zero_of_lt (by omega) hr
   rw [e2, this, Int.add_zero, e3]
   generalize q * b = A at *
   generalize q * p = B at *
   omega
  ·have hrp : r + 1 = p := by omega
   have : (r + 1) / p = 1 := by rw [hrp]; exact Int.ediv_self (by omega)
   rw [e2, this]
   have e5 : (q + 1) * (b + 1) = q * b + q + b + 1 := by rw [Int.add_mul, e3]; omega
   have e6 : (q + 1) * p = q * p + p := by rw [Int.add_mul]; omega
   rw [e5, e6]
   generalize q * b = A at *
   generalize q * p = B at *
   omega

def AskLe : List Tk → List Tk → List Int → List Int → Prop
 | t :: l, t' :: l', m :: a, m' :: a' => (t'.p = t.p ∧ t'.d = t.d ∧ 0 ≤ t'.w + m' ∧ t'.w + m' ≤ t.w + m) ∧ AskLe l l' a a'
 | [], [], [], [] => True
 | _, _, _, _ => False
theorem ask_le {q : Tk → Int} (hq : ∀ t t' : Tk, t'.p = t.p → t'.d = t.d → q t' = q t) : ∀ {l l' : List Tk} {a a' : List Int}, AskLe l l' a a' → (∀ t, t ∈ l → 0 ≤ q t) → (askP q l' a').sum ≤ (askP q l a).sum
 | t :: l, t' :: l', m :: a, m' :: a', h, h0 => by
  obtain ⟨⟨h1, h2, h3, h4⟩, h5⟩ := h
  have ih := ask_le hq h5 (fun u hu => h0 u (List.mem_cons_of_mem _ hu))
  have hz := h0 t List.mem_cons_self
  show (q t' * (t'.w + m') :: askP q l' a').sum ≤ (q t * (t.w + m) :: askP q l a).sum
  rw [List.sum_cons, List.sum_cons, hq t t' h1 h2]
  have := Int.mul_le_mul_of_nonneg_left h4 hz
  omega
 | [], [], [], [], _, _ => by simp [askP]
theorem askLe_len : ∀ {l l' : List Tk} {a a' : List Int}, AskLe l l' a a' → l'.length = l.length ∧ l'.map (·.p) = l.map (·.p) ∧ l'.map (·.d) = l.map (·.d)
 | t :: l, t' :: l', m :: a, m' :: a', h => by
  obtain ⟨⟨h1, h2, h3, h4⟩, h5⟩ := h
  have ih := askLe_len h5
  simp [ih.1, ih.2.1, ih.2.2, h1, h2]
 | [], [], [], [], _ => by simp
theorem farN_same {l l' : List Tk} (h : l'.map (·.d) = l.map (·.d)) : ∀ j, farN l' j = farN l j
 | 0 => rfl
 | j + 1 => by
  have h1 : (l'[j]?).map (·.d) = (l[j]?).map (·.d) := by rw [← List.getElem?_map, ← List.getElem?_map, h]
  rw [farN, farN, farN_same h j]
  cases h2 : l'[j]? <;> cases h3 : l[j]? <;> simp [h2, h3] at h1 ⊢
  rw [h1]
theorem hyp_same {l l' : List Tk} {n : Int} (h : l'.map (·.p) = l.map (·.p)) (h1 : tasksOk l = true) (h2 : tasksOk l' = true) : hypS l' n = hypS l n := by
 have hp : perN l' = perN l := by
  have : ∀ l : List Tk, perN l = (l.map (·.p)).map Int.toNat := fun l => by simp [perN]
  rw [this, this, h]
 have hN : ∀ k, hypN l' k = hypN l k := fun k => by rw [hypN, hypN, hp]
 simp only [hypS, h1, h2, hN]
theorem tasksOk_in {l : List Pt} (h : delCheck l = 0) {x : Pt} (hx : x ∈ l) : tasksOk x.ts = true := tasksOk_of (okT_of h hx) ((ok_in h).2 x hx).2.1

theorem pass_mono {l l' : List Pt} (h : delCheck l = 0) (h' : delCheck l' = 0) {i i' : Nat} (hi : i < l.length) (hi' : i' < l'.length) (hper : l'[i'].per = l[i].per) (hbud : l[i].bud ≤ l'[i'].bud)
  (hg : ∀ n : Int, 0 ≤ n → n ≤ 1048576 → givesS l[i].per l[i].bud n ≤ givesS l'[i'].per l'[i'].bud n) (hM : AskLe l[i].ts l'[i'].ts (moreL l i) (moreL l' i'))
  (hof : ∀ n : Int, 0 ≤ n → ofN l' (i' : Nat) n l'[i'].ts l'[i'].ts.length ≤ ofN l (i : Nat) n l[i].ts l[i].ts.length) (hpass : (testS l (i : Nat)).2 = 0) : (testS l' (i' : Nat)).2 = 0 := by
 have hx : l[i] ∈ l := List.getElem_mem hi
 have hx' : l'[i'] ∈ l' := List.getElem_mem hi'
 have hp := ((ok_in h).2 _ hx).1
 unfold partIn at hp
 have hO := okT_of h hx
 have hO' := okT_of h' hx'
 obtain ⟨hl, hper', hdl⟩ := askLe_len hM
 by_cases hne : l[i].ts.length = 0
 ·rw [testS_ok h' hi', if_pos (by omega)]
 ·have hfar := farN_in (ts := l[i].ts) (fun t ht => by have := hO t ht; unfold OkT at this; omega) l[i].ts.length (Nat.le_refl _)
  obtain ⟨H, H0, H1, H2, H3, H4, H5, H6⟩ := (pass_iff h hi hne).1 hpass
  refine (pass_iff h' hi' (by omega)).2 ⟨H, ?_, H1, H2, ?_, ?_, ?_, ?_⟩
  ·rw [hper, hyp_same hper' (tasksOk_in h hx) (tasksOk_in h' hx'), H0]
  ·rw [hper]; exact H3
  ·intro t ht
   have : t.p ∈ l'[i'].ts.map (·.p) := List.mem_map.2 ⟨t, ht, rfl⟩
   rw [hper'] at this
   obtain ⟨u, hu, e⟩ := List.mem_map.1 this
   rw [← e]
   exact H4 u hu
  ·have h1 := ask_le (q := fun t => H / t.p) (fun t t' e _ => by rw [e]) hM (fun t ht => Int.ediv_nonneg (by omega) (by have := hO t ht; unfold OkT at this; omega))
   have h2 : 0 ≤ H / l[i].per := Int.ediv_nonneg (by omega) (by omega)
   have h3 := Int.mul_le_mul_of_nonneg_left hbud h2
   rw [hper]
   omega
  ·intro n n1 n2 hn
   rw [hper, farN_same hdl, hl] at n2
   have hn2 : (n : Int) ≤ 1048576 := by omega
   have s1 := slack_plain h hi (n := (n : Nat)) (by omega) hn2
   have s2 := slack_plain h' hi' (n := (n : Nat)) (by omega) hn2
   have hle := ask_le (q := jobsP (n : Nat)) (fun t t' e1 e2 => by unfold jobsP; rw [e1, e2]) hM (fun t ht => (jobs_plain (hO t ht) (by omega) hn2).2.1)
   have hpos : asksI l[i] (moreL l i) n > 0 := by
    rw [s2.1] at hn
    rw [s1.1]
    omega
   have h4 := H6 n n1 n2 hpos
   rw [s1.2] at h4
   rw [s2.2]
   have h5 := hg (n : Nat) (by omega) hn2
   have h6 := hof (n : Nat) (by omega)
   omega
end Ir
end Go.Proofs.Ytlndlbngfgaoeaa
