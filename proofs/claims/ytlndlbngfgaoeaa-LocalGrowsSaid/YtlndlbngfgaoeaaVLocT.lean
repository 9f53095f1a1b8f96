/-
  Local: what LocalGrows asks of tests.
-/
import Derived.Test.YtlndlbngfgaoeaaVLocS
set_option maxRecDepth 100000
set_option linter.unusedSimpArgs false
set_option linter.unusedVariables false
namespace Go.Proofs.Ytlndlbngfgaoeaa
open Go Ads
namespace Ir

theorem moreL_eq {l : List Pt} {i : Nat} (hi : i < l.length) : moreL l i = l[i].ts.map (moreOne l (i : Nat)) := by rw [moreL, List.getElem?_eq_getElem hi]
theorem askLe_map : ∀ (ts : List Tk) (f g : Tk → Int) (e : Tk → Tk), (∀ t, t ∈ ts → (e t).p = t.p ∧ (e t).d = t.d ∧ 0 ≤ (e t).w + g (e t) ∧ (e t).w + g (e t) ≤ t.w + f t) → AskLe ts (ts.map e) (ts.map f) ((ts.map e).map g)
 | [], f, g, e, _ => trivial
 | t :: ts, f, g, e, h => ⟨h t List.mem_cons_self, askLe_map ts f g e fun u hu => h u (List.mem_cons_of_mem _ hu)⟩

theorem test_big {l : List Pt} {y : Pt} (h : delCheck l = 0) (hb : delCheck (l ++ [y]) = 0) {i : Nat} (hi : i < l.length) (hp : (testS (l ++ [y]) (i : Nat)).2 = 0) : (testS l (i : Nat)).2 = 0 := by
 have hib : i < (l ++ [y]).length := by simp; omega
 have hgb : (l ++ [y])[i] = l[i] := List.getElem_append_left hi
 have hx : l[i] ∈ l := List.getElem_mem hi
 have hyp := ((ok_in hb).2 y (by simp)).1
 unfold partIn at hyp
 refine pass_mono hb h hib hi (by rw [hgb]) (by rw [hgb]; omega) (fun n _ _ => by rw [hgb]; omega) ?_ ?_ hp
 ·rw [moreL_eq hib, moreL_eq hi, hgb]
  have := askLe_map l[i].ts (moreOne (l ++ [y]) (i : Nat)) (moreOne l (i : Nat)) id (fun t ht => by
   have h1 := more_mono h hb i hi hx (by omega) ht
   have h2 := more_in h i hi ht
   have h3 := okT_of h hx t ht
   unfold OkT at h3
   refine ⟨rfl, rfl, ?_, ?_⟩
   ·show 0 ≤ t.w + moreOne l (i : Nat) t; omega
   ·show t.w + moreOne l (i : Nat) t ≤ t.w + moreOne (l ++ [y]) (i : Nat) t; omega)
  simpa using this
 ·intro n hn
  rw [hgb]
  exact ofN_big (fun t ht => (by_mono h hb i hi hx (by omega) ht).1) _ (Nat.le_refl _)

theorem waitN_one (x : Pt) (g : Int) : waitN [x] ((0 : Nat) : Int) g 1 = 0 := by
 rw [waitN_next (by simp), if_neg (by simp)]
 rfl
theorem waitS_one (x : Pt) (t : Tk) : waitS [x] ((0 : Nat) : Int) t = 0 := by
 unfold waitS
 split
 ·rfl
 ·exact waitN_one x _

theorem ofN_le2 {l m : List Pt} {a b n : Int} {ts : List Tk} (hm : ∀ t, t ∈ ts → byOne l a t ≤ byOne m b t) : ∀ j, j ≤ ts.length → ofN l a n ts j ≤ ofN m b n ts j
 | 0, _ => by simp [ofN]
 | j + 1, hj => by
  have hlt : j < ts.length := by omega
  have ih := ofN_le2 (n := n) hm j (by omega)
  have := hm _ (List.getElem_mem hlt)
  rw [ofN_next hlt, ofN_next hlt]
  split
  ·rw [mx_max, mx_max]; omega
  ·exact ih

def bigger (x : Pt) (k : Nat) : Pt := ⟨x.per, min (x.bud + 1) x.per, k, x.ts⟩
theorem bigger_ok {l : List Pt} (h : delCheck l = 0) {x : Pt} (hx : x ∈ l) (k : Nat) : delCheck [bigger x k] = 0 := by
 have hok := (ok_in h).2 x hx
 have hp := hok.1
 unfold partIn at hp
 have hT := tasksOk_in h hx
 rw [delCheck, if_pos]
 refine ⟨by simp, ?_⟩
 simp only [List.all_cons, List.all_nil, Bool.and_true, partOk, bigger, Bool.and_eq_true]
 refine ⟨decide_eq_true (by unfold partIn; simp only; omega), hT, ?_⟩
 rw [List.all_eq_true]
 intro t ht
 have hm := mayD_in (hok.2.2 t ht).2
 refine decide_eq_true ⟨hm.1, hm.2.1, hm.2.2.1, hm.2.2.2.1, ?_⟩
 rcases hm.2.2.2.2 with h1 | h1
 ·exact .inl h1
 ·exact .inr ⟨h1.1, h1.2.1, by omega, h1.2.2.2⟩
theorem test_bigger {l : List Pt} (h : delCheck l = 0) {i : Nat} (hi : i < l.length) (k : Nat) (hp : (testS l (i : Nat)).2 = 0) : (testS [bigger l[i] k] ((0 : Nat) : Int)).2 = 0 := by
 have hx : l[i] ∈ l := List.getElem_mem hi
 have h1 := bigger_ok h hx k
 have hok := (ok_in h).2 _ hx
 have hpi := hok.1
 unfold partIn at hpi
 refine pass_mono h h1 hi (i' := 0) (by simp) rfl (by show l[i].bud ≤ min (l[i].bud + 1) l[i].per; omega) ?_ ?_ ?_ hp
 ·intro n n0 n1
  show givesS l[i].per l[i].bud n ≤ givesS l[i].per (min (l[i].bud + 1) l[i].per) n
  by_cases hb : l[i].bud + 1 ≤ l[i].per
  ·rw [show min (l[i].bud + 1) l[i].per = l[i].bud + 1 by omega]
   exact gives_mono (by unfold srvIn; omega) (by unfold srvIn; omega) n0 n1
  ·rw [show min (l[i].bud + 1) l[i].per = l[i].bud by omega]
   exact Int.le_refl _
 ·rw [moreL_eq hi, moreL_eq (l := [bigger l[i] k]) (i := 0) (by simp)]
  have := askLe_map l[i].ts (moreOne l (i : Nat)) (moreOne [bigger l[i] k] ((0 : Nat) : Int)) id (fun t ht => by
   have a1 := more_in h i hi ht
   have a2 := more_in h1 0 (by simp) (t := t) ht
   have a3 := okT_of h hx t ht
   have he := e_in h hx ht
   have hf := f_in h hx ht
   have hw := waitS_in h (i : Nat) t
   have a4 : moreOne [bigger l[i] k] ((0 : Nat) : Int) t ≤ moreOne l (i : Nat) t := by
    rw [moreOne_eq h1 _ t he hf, moreOne_eq h _ t he hf, waitS_one]
    exact Int.mul_le_mul_of_nonneg_left (by omega) hf.1
   unfold OkT at a3
   refine ⟨rfl, rfl, ?_, ?_⟩
   ·show 0 ≤ t.w + moreOne [bigger l[i] k] ((0 : Nat) : Int) t; omega
   ·show t.w + moreOne [bigger l[i] k] ((0 : Nat) : Int) t ≤ t.w + moreOne l (i : Nat) t; omega)
  rw [List.map_id] at this
  exact this
 ·intro n hn
  refine ofN_le2 (fun t ht => ?_) _ (Nat.le_refl _)
  have he := e_in h hx ht
  have hw := waitS_in h (i : Nat) t
  unfold byOne
  split
  ·omega
  ·rw [mx_max, mx_max, waitMore_eq h1 _ t he, waitMore_eq h _ t he, waitS_one]
   omega

def lessT (t : Tk) : Tk := ⟨t.p, t.d, max (t.w - 1) 1, 0, 0, 0, 0, 0⟩
def lessP (x : Pt) (k k2 : Nat) : Pt := ⟨x.per, min (x.bud + 1) x.per, k2, x.ts.map lessT⟩
theorem lessP_ok {l : List Pt} (h : delCheck l = 0) {x : Pt} (hx : x ∈ l) (k k2 : Nat) : delCheck [lessP x k k2] = 0 := by
 have hok := (ok_in h).2 x hx
 have hp := hok.1
 unfold partIn at hp
 have hT : ∀ t, t ∈ x.ts.map lessT → OkT t := by
  intro t ht
  obtain ⟨u, hu, rfl⟩ := List.mem_map.1 ht
  have := okT_of h hx u hu
  unfold OkT at this ⊢
  simp only [lessT]
  omega
 rw [delCheck, if_pos]
 refine ⟨by simp, ?_⟩
 simp only [List.all_cons, List.all_nil, Bool.and_true, partOk, lessP, Bool.and_eq_true]
 refine ⟨decide_eq_true (by unfold partIn; simp only; omega), tasksOk_of hT (by simp; exact hok.2.1), ?_⟩
 rw [List.all_eq_true]
 intro t ht
 have h1 := hT t ht
 obtain ⟨u, hu, rfl⟩ := List.mem_map.1 ht
 unfold OkT at h1
 refine decide_eq_true ⟨by simp [lessT], by simp only [lessT] at h1 ⊢; omega, by simp [lessT], by simp [lessT], .inl ⟨rfl, rfl, rfl⟩⟩
theorem test_less {l : List Pt} (h : delCheck l = 0) {i : Nat} (hi : i < l.length) (k k2 : Nat) (hp : (testS l (i : Nat)).2 = 0) : (testS [lessP l[i] k k2] ((0 : Nat) : Int)).2 = 0 := by
 have hx : l[i] ∈ l := List.getElem_mem hi
 have h1 := lessP_ok h hx k k2
 have hok := (ok_in h).2 _ hx
 have hpi := hok.1
 unfold partIn at hpi
 refine pass_mono h h1 hi (i' := 0) (by simp) rfl (by show l[i].bud ≤ min (l[i].bud + 1) l[i].per; omega) ?_ ?_ ?_ hp
 ·intro n n0 n1
  show givesS l[i].per l[i].bud n ≤ givesS l[i].per (min (l[i].bud + 1) l[i].per) n
  by_cases hb : l[i].bud + 1 ≤ l[i].per
  ·rw [show min (l[i].bud + 1) l[i].per = l[i].bud + 1 by omega]
   exact gives_mono (by unfold srvIn; omega) (by unfold srvIn; omega) n0 n1
  ·rw [show min (l[i].bud + 1) l[i].per = l[i].bud by omega]
   exact Int.le_refl _
 ·rw [moreL_eq hi, moreL_eq (l := [lessP l[i] k k2]) (i := 0) (by simp)]
  refine askLe_map l[i].ts (moreOne l (i : Nat)) (moreOne [lessP l[i] k k2] ((0 : Nat) : Int)) lessT (fun t ht => ?_)
  have a1 := more_in h i hi ht
  have a3 := okT_of h hx t ht
  have a4 : moreOne [lessP l[i] k k2] ((0 : Nat) : Int) (lessT t) = 0 := by
   rw [moreOne_eq h1 _ _ (by simp [lessT]) (by simp [lessT])]
   simp [lessT]
  unfold OkT at a3
  refine ⟨rfl, rfl, ?_, ?_⟩
  ·rw [a4]; show 0 ≤ max (t.w - 1) 1 + 0; omega
  ·rw [a4]; show max (t.w - 1) 1 + 0 ≤ t.w + moreOne l (i : Nat) t; omega
 ·intro n hn
  have hz : ofN [lessP l[i] k k2] ((0 : Nat) : Int) n (l[i].ts.map lessT) (l[i].ts.map lessT).length ≤ 0 := ofN_le _ n 0 (Int.le_refl _) _ (fun t ht => by
   obtain ⟨u, hu, rfl⟩ := List.mem_map.1 ht
   simp [byOne, lessT]) _ (Nat.le_refl _)
  have := ofN_nonneg (l := l) (i : Nat) n l[i].ts l[i].ts.length (Nat.le_refl _)
  show ofN [lessP l[i] k k2] ((0 : Nat) : Int) n (l[i].ts.map lessT) (l[i].ts.map lessT).length ≤ _
  omega
end Ir
end Go.Proofs.Ytlndlbngfgaoeaa
