/-
  Room, in plain Lean: who goes on finds free what it uses; of those that have locked something the later ones have the earlier deadlines. Room, in plain Lean: what holds between steps. Room, in plain Lean: who goes on, and what a step does. Room's laws: the tasks that they make. Room's laws: calls of a room whose answers are known. Room's laws: the chapter's example. Room's laws: a play in a heap; gone, held, noRun. Room's laws: gone, held. Room's laws: a step of a play. RoomFree.
-/
import Derived.Test.YtnlcabhfkpafmaaGreatZF
set_option maxRecDepth 100000
set_option linter.unusedSimpArgs false
set_option linter.unusedVariables false
namespace Go.Proofs.YtnlcabhfkpafmaaGreat
open Go Ads
namespace Ir
abbrev Js := List (Option Jb)
def hasJ (js : Js) (i : Nat) (j : Jb) : Prop := js[i]? = some (some j)
theorem hasJ.eq {js : Js} {i : Nat} {j j' : Jb} (h : hasJ js i j) (h' : hasJ js i j') : j = j' := by
 rw [hasJ] at h h'
 rw [h] at h'
 cases h'
 rfl
def Ahd (js : Js) (a b : Nat) : Prop := ∀ j j', hasJ js a j → hasJ js b j' → ah (a, j.e) (b, j'.e) = true
def Sk (T : List Tk) (js : Js) : List Nat → List En → List Nat → Prop
 | [], L, o => L = [] ∧ o = []
 | a :: R, L, o => ∃ L0 L1 o0, L = L0 ++ L1 ∧ o = o0 ++ cond L1.isEmpty [] [a] ∧ (∀ x ∈ L1, x.1 = ((a : Nat) : Int)) ∧ (∀ x ∈ L0, ceil T x.2 < lvl T a) ∧ a ∉ R ∧ (∀ b ∈ R, Ahd js a b) ∧ Sk T js R L0 o0
section
variable {T : List Tk} {js js' : Js} {R : List Nat} {L : List En} {o : List Nat} {a : Nat}
theorem Sk.mem : ∀ {R : List Nat} {L : List En} {o : List Nat}, Sk T js R L o → ∀ x ∈ L, ∃ a ∈ R, x.1 = ((a : Nat) : Int)
 | [], L, o, h, x, hx => by rw [h.1] at hx; simp at hx
 | a :: R, L, o, ⟨L0, L1, o0, h1, h2, h3, h4, h5, h6, h7⟩, x, hx => by
  rw [h1, List.mem_append] at hx
  rcases hx with hx | hx
  ·obtain ⟨b, hb, e⟩ := h7.mem x hx
   exact ⟨b, by simp [hb], e⟩
  ·exact ⟨a, by simp, h3 x hx⟩
theorem Sk.omem : ∀ {R : List Nat} {L : List En} {o : List Nat}, Sk T js R L o → ∀ x ∈ o, x ∈ R
 | [], L, o, h, x, hx => by rw [h.2] at hx; simp at hx
 | a :: R, L, o, ⟨L0, L1, o0, h1, h2, h3, h4, h5, h6, h7⟩, x, hx => by
  rw [h2, List.mem_append] at hx
  rcases hx with hx | hx
  ·exact List.mem_cons_of_mem _ (h7.omem x hx)
  ·cases hl : L1.isEmpty with
   | true => rw [hl] at hx; simp at hx
   | false => rw [hl] at hx; simp at hx; simp [hx]
theorem Sk.congr : ∀ {R : List Nat} {L : List En} {o : List Nat}, Sk T js R L o → (∀ a ∈ R, ∀ j', hasJ js' a j' → ∃ j, hasJ js a j ∧ j.e = j'.e) → Sk T js' R L o
 | [], L, o, h, _ => h
 | a :: R, L, o, ⟨L0, L1, o0, h1, h2, h3, h4, h5, h6, h7⟩, hc => by
  refine ⟨L0, L1, o0, h1, h2, h3, h4, h5, fun b hb j j' hj hj' => ?_, h7.congr fun b hb => hc b (List.mem_cons_of_mem _ hb)⟩
  obtain ⟨k, k1, k2⟩ := hc a (by simp) j hj
  obtain ⟨l, l1, l2⟩ := hc b (List.mem_cons_of_mem _ hb) j' hj'
  rw [← k2, ← l2]
  exact h6 b hb k l k1 l1
theorem held_app (L M : List En) (t : Int) : heldL (L ++ M) t = heldL L t ++ heldL M t := by rw [heldL, List.filter_append, List.map_append]; rfl
theorem held_no {L : List En} {t : Int} (h : ∀ x ∈ L, x.1 ≠ t) : heldL L t = [] := by
 rw [heldL, List.filter_eq_nil_iff.2 (fun x hx => by simpa using h x hx)]
 rfl
theorem held_all {L : List En} {t : Int} (h : ∀ x ∈ L, x.1 = t) : heldL L t = L.map (·.2) := by
 rw [heldL, List.filter_eq_self.2 (fun x hx => by simpa using h x hx)]
theorem drop_app (L M : List En) (t : Int) : dropL (L ++ M) t = dropL L t ++ dropL M t := List.filter_append ..
theorem Sk.no {L0 : List En} {o0 : List Nat} (h : Sk T js R L0 o0) (ha : a ∉ R) : ∀ x ∈ L0, x.1 ≠ ((a : Nat) : Int) := by
 intro x hx e
 obtain ⟨b, hb, e2⟩ := h.mem x hx
 have : a = b := by omega
 exact ha (this ▸ hb)
theorem Sk.lock (h : Sk T js (a :: R) L o) (x : Int) : Sk T js (a :: R) (L ++ [(((a : Nat) : Int), x)]) (if heldL L ((a : Nat) : Int) = [] then o ++ [a] else o) := by
 obtain ⟨L0, L1, o0, h1, h2, h3, h4, h5, h6, h7⟩ := h
 have hh : heldL L ((a : Nat) : Int) = L1.map (·.2) := by rw [h1, held_app, held_no (h7.no h5), held_all h3]; rfl
 refine ⟨L0, L1 ++ [(((a : Nat) : Int), x)], o0, by rw [h1, List.append_assoc], ?_, fun y hy => ?_, h4, h5, h6, h7⟩
 ·rw [hh, h2]
  cases L1 with
  | nil => simp
  | cons y l => simp
 ·rcases List.mem_append.1 hy with hy | hy
  ·exact h3 y hy
  ·rw [List.mem_singleton.1 hy]
theorem filter_no {l : List Nat} {a : Nat} (h : a ∉ l) : l.filter (fun x => !(x == a)) = l := by
 rw [List.filter_eq_self]
 intro x hx
 have : x ≠ a := fun e => h (e ▸ hx)
 simpa using this
theorem Sk.gone {L0 L1 : List En} {o0 : List Nat} (h7 : Sk T js R L0 o0) (h5 : a ∉ R) (b : Bool) : (o0 ++ cond b [] [a]).filter (fun x => !(x == a)) = o0 := by
 rw [List.filter_append, filter_no (fun h => h5 (h7.omem a h))]
 cases b <;> simp
theorem Sk.end' (h : Sk T js (a :: R) L o) : Sk T js R (dropL L ((a : Nat) : Int)) (o.filter fun x => !(x == a)) := by
 obtain ⟨L0, L1, o0, h1, h2, h3, h4, h5, h6, h7⟩ := h
 have d0 : dropL L0 ((a : Nat) : Int) = L0 := List.filter_eq_self.2 (fun x hx => by simpa using h7.no h5 x hx)
 have d1 : dropL L1 ((a : Nat) : Int) = [] := List.filter_eq_nil_iff.2 (fun x hx => by simpa using h3 x hx)
 rw [h1, drop_app, d0, d1, List.append_nil, h2, h7.gone (L1 := L1) h5]
 exact h7
theorem Sk.unl (h : Sk T js (a :: R) L o) {n : Nat} (hn : n < L.length) (hla : lastI L ((a : Nat) : Int) = ((n : Nat) : Int)) :
  Sk T js (a :: R) (L.eraseIdx n) (if heldL (L.eraseIdx n) ((a : Nat) : Int) = [] then o.filter (fun x => !(x == a)) else o) := by
 have hp := lastN_at L ((a : Nat) : Int) L.length (Nat.le_refl _) n hn hla
 obtain ⟨L0, L1, o0, h1, h2, h3, h4, h5, h6, h7⟩ := h
 subst h1
 have hge : L0.length ≤ n := by
  rcases Nat.lt_or_ge n L0.length with hlt | hge
  ·exfalso
   rw [List.getElem_append_left hlt] at hp
   exact h7.no h5 _ (List.getElem_mem hlt) (eq_of_beq hp)
  ·exact hge
 have he : (L0 ++ L1).eraseIdx n = L0 ++ L1.eraseIdx (n - L0.length) := List.eraseIdx_append_of_length_le hge _
 have hsub : ∀ x ∈ L1.eraseIdx (n - L0.length), x.1 = ((a : Nat) : Int) := fun x hx => h3 x (List.eraseIdx_subset hx)
 have hh : heldL ((L0 ++ L1).eraseIdx n) ((a : Nat) : Int) = (L1.eraseIdx (n - L0.length)).map (·.2) := by rw [he, held_app, held_no (h7.no h5), held_all hsub]; rfl
 have hne : L1.isEmpty = false := by
  cases L1 with
  | nil => rw [List.append_nil] at hn; omega
  | cons x l => rfl
 refine ⟨L0, L1.eraseIdx (n - L0.length), o0, he, ?_, hsub, h4, h5, h6, h7⟩
 rw [hh, h2]
 cases hM : L1.eraseIdx (n - L0.length) with
 | nil => rw [List.map_nil, if_pos rfl, h7.gone (L1 := L1) h5]; simp
 | cons x l => rw [if_neg (by simp), hne]; rfl
theorem Sk.ord : ∀ {R : List Nat} {L : List En} {o : List Nat}, Sk T js R L o → o.Pairwise fun x y => Ahd js y x
 | [], L, o, h => by rw [h.2]; exact .nil
 | a :: R, L, o, ⟨L0, L1, o0, h1, h2, h3, h4, h5, h6, h7⟩ => by
  rw [h2, List.pairwise_append]
  refine ⟨h7.ord, ?_, fun x hx y hy => ?_⟩
  ·cases L1.isEmpty <;> simp
  ·cases hl : L1.isEmpty with
   | true => rw [hl] at hy; simp at hy
   | false =>
    rw [hl] at hy
    simp at hy
    subst hy
    exact h6 x (h7.omem x hx)
end
theorem ceil_ge {l : List Tk} {r : Int} {i : Nat} (hi : i < l.length) (h : uses l i r = true) : lvl l i ≤ ceil l r := by
 have key : ∀ n, i < n → lvl l i ≤ maxN (ceilS l r) n := by
  intro n
  induction n with
  | zero => intro h; omega
  | succ n ih =>
   intro hn
   by_cases e : i = n
   ·subst e
    rw [ceil_yes h]
    omega
   ·have := ih (by omega)
    show _ ≤ max _ _
    omega
 exact key _ hi
theorem lvl_mono {l : List Tk} {i k : Nat} {t u : Tk} (ht : l[i]? = some t) (hu : l[k]? = some u) (h : t.d ≤ u.d) : lvl l k ≤ lvl l i := by
 have hi := (List.getElem?_eq_some_iff.1 ht).1
 have hk := (List.getElem?_eq_some_iff.1 hu).1
 rw [lvl_in (i := ((i : Nat) : Int)) ⟨by omega, by omega⟩ (by rw [Int.toNat_natCast]; exact ht), lvl_in (i := ((k : Nat) : Int)) ⟨by omega, by omega⟩ (by rw [Int.toNat_natCast]; exact hu)]
 have : above l u.d ≤ above l t.d := List.countP_mono_left fun x _ hx => by
  simp only [decide_eq_true_eq] at hx ⊢
  omega
 omega
theorem lvl_pos {l : List Tk} {i : Nat} (hi : i < l.length) : 0 < lvl l i := by
 rw [lvl_in (i := ((i : Nat) : Int)) ⟨by omega, by omega⟩ (by rw [Int.toNat_natCast]; exact List.getElem?_eq_getElem hi)]
 omega
theorem ceilF_lt {T : List Tk} {L : List En} {n : Int} (h : ∀ x ∈ L, ceil T x.2 < n) (h0 : 0 < n) : ceilF T L < n := by
 have key : ∀ (L : List En) (a : Int), a < n → (∀ x ∈ L, ceil T x.2 < n) → L.foldl (fun n x => max n (ceil T x.2)) a < n := by
  intro L
  induction L with
  | nil => intro a ha _; exact ha
  | cons x L ih =>
   intro a ha hL
   refine ih _ ?_ (fun y hy => hL y (by simp [hy]))
   have := hL x (by simp)
   show max _ _ < n
   omega
 exact key L 0 h0 h
theorem ceilF_ge {T : List Tk} {L : List En} {x : En} (h : x ∈ L) : ceil T x.2 ≤ ceilF T L := by
 have k0 : ∀ (L : List En) (a : Int), a ≤ L.foldl (fun n x => max n (ceil T x.2)) a := by
  intro L
  induction L with
  | nil => intro a; exact Int.le_refl _
  | cons y L ih => intro a; exact Int.le_trans (by omega) (ih (max a (ceil T y.2)))
 have key : ∀ (L : List En) (a : Int), x ∈ L → ceil T x.2 ≤ L.foldl (fun n x => max n (ceil T x.2)) a := by
  intro L
  induction L with
  | nil => intro a h; simp at h
  | cons y L ih =>
   intro a h
   rcases List.mem_cons.1 h with rfl | h
   ·exact Int.le_trans (by omega) (k0 L (max a (ceil T x.2)))
   ·exact ih _ h
 exact key L 0 h
theorem hasJ_set {js : Js} {i n : Nat} {x : Option Jb} {jn : Jb} : hasJ (js.set i x) n jn ↔ (n = i ∧ i < js.length ∧ x = some jn) ∨ (n ≠ i ∧ hasJ js n jn) := by
 rw [hasJ, List.getElem?_set]
 by_cases e : i = n
 ·rw [if_pos e]
  by_cases hl : i < js.length
  ·rw [if_pos hl]
   constructor
   ·intro h; exact .inl ⟨e.symm, hl, Option.some.inj h⟩
   ·rintro (⟨_, _, h⟩ | ⟨h, _⟩)
    ·rw [h]
    ·exact absurd e.symm h
  ·rw [if_neg hl]
   constructor
   ·intro h; cases h
   ·rintro (⟨_, h, _⟩ | ⟨h, _⟩)
    ·exact absurd h hl
    ·exact absurd e.symm h
 ·rw [if_neg e]
  constructor
  ·intro h; exact .inr ⟨fun h => e h.symm, h⟩
  ·rintro (⟨h, _⟩ | ⟨_, h⟩)
   ·exact absurd h.symm e
   ·exact h
def FstJ (js : Js) (i : Nat) (j : Jb) : Prop := hasJ js i j ∧ ∀ (i' : Nat) (j' : Jb), hasJ js i' j' → ah (i', j'.e) (i, j.e) = false
theorem ah_tot {a b : Id} (hn : a.1 ≠ b.1) (h : ah a b = false) : ah b a = true := by
 rw [ah_not] at h
 rw [ah_iff]
 omega
structure Inv (T : List Tk) (js : Js) (L : List En) (now : Int) (R : List Nat) (o : List Nat) : Prop where
 n4 : T.length ≤ 4
 jl : js.length = T.length
 tk : ∀ i j, hasJ js i j → T[i]? = some j.t
 sec : ∀ i j, hasJ js i j → j.s = 0 ∨ j.s = 1
 e : ∀ i j, hasJ js i j → j.e ≤ now + j.t.d
 rj : ∀ a ∈ R, ∃ j, hasJ js a j
 gR : ∀ i j, hasJ js i j → j.g = true → i ∈ R
 nf : ∀ f j a ja, hasJ js f j → f ∉ R → a ∈ R → hasJ js a ja → ah (f, j.e) (a, ja.e) = true → j.t.d ≤ ja.t.d
 sk : Sk T js R L o
 ln : (L.length : Int) ≤ now
section
variable {T : List Tk} {js : Js} {L L' : List En} {now : Int} {R : List Nat} {o o' : List Nat} {i : Nat} {j j' : Jb}
theorem Inv.tick (I : Inv T js L now R o) : Inv T js L (now + 1) R o :=
 ⟨I.n4, I.jl, I.tk, I.sec, fun i j h => by have := I.e i j h; omega, I.rj, I.gR, I.nf, I.sk, by have := I.ln; omega⟩
theorem Inv.lt (I : Inv T js L now R o) (h : hasJ js i j) : i < T.length := (List.getElem?_eq_some_iff.1 (I.tk i j h)).1
theorem Sk.head {a : Nat} {R : List Nat} (h : Sk T js (a :: R) L o) : ∀ b ∈ R, Ahd js a b := by
 obtain ⟨L0, L1, o0, h1, h2, h3, h4, h5, h6, h7⟩ := h
 exact h6
theorem Inv.fst_in (I : Inv T js L now R o) (F : FstJ js i j) (hi : i ∈ R) : ∃ R', R = i :: R' := by
 cases hR : R with
 | nil => rw [hR] at hi; simp at hi
 | cons a R' =>
  rw [hR] at hi
  rcases List.mem_cons.1 hi with rfl | hi
  ·exact ⟨R', rfl⟩
  ·exfalso
   have sk := I.sk
   rw [hR] at sk
   obtain ⟨ja, hja⟩ := I.rj a (by rw [hR]; simp)
   have := sk.head i hi ja j hja F.1
   rw [F.2 a ja hja] at this
   cases this
theorem Inv.who (I : Inv T js L now R o) (F : FstJ js i j) (h : j.g = true ∨ lvl T i > ceilF T L) : (∃ R', R = i :: R') ∨ (i ∉ R ∧ Inv T js L now (i :: R) o) := by
 by_cases hi : i ∈ R
 ·exact .inl (I.fst_in F hi)
 ·right
  have hl : lvl T i > ceilF T L := h.resolve_left fun hg => hi (I.gR i j F.1 hg)
  refine ⟨hi, I.n4, I.jl, I.tk, I.sec, I.e, fun a ha => ?_, fun n jn h1 h2 => List.mem_cons_of_mem _ (I.gR n jn h1 h2), fun f jf a ja h1 h2 h3 h4 h5 => ?_, ⟨L, [], o, by simp, by simp, by simp, fun x hx => ?_, hi, fun b hb ji jb h1 h2 => ?_, I.sk⟩, I.ln⟩
  ·rcases List.mem_cons.1 ha with rfl | ha
   ·exact ⟨j, F.1⟩
   ·exact I.rj a ha
  ·rcases List.mem_cons.1 h3 with rfl | h3
   ·rw [h4.eq F.1, F.2 f jf h1] at h5
    cases h5
   ·exact I.nf f jf a ja h1 (fun h => h2 (by simp [h])) h3 h4 h5
  ·have := ceilF_ge (T := T) hx
   omega
  ·rw [h1.eq F.1]
   exact ah_tot (fun e => hi (by have e : b = i := e; rw [← e]; exact hb)) (F.2 b jb h2)
theorem Inv.top (I : Inv T js L now R o) (F : FstJ js i j) (hl : ¬ lvl T i > ceilF T L) : ∃ a R', R = a :: R' ∧ topL L = (((a : Nat) : Int), true) ∧ heldL L ((a : Nat) : Int) ≠ [] ∧
  (i = a ∨ (i ∉ R ∧ ¬ ∀ x ∈ L, x.1 = ((a : Nat) : Int) → ceil T x.2 < lvl T i)) := by
 have hlt := I.lt F.1
 have hpos := lvl_pos hlt
 cases hR : R with
 | nil =>
  exfalso
  have sk := I.sk
  rw [hR] at sk
  rw [sk.1] at hl
  exact hl (by show lvl T i > 0; omega)
 | cons a R' =>
  have sk := I.sk
  rw [hR] at sk
  obtain ⟨L0, L1, o0, h1, h2, h3, h4, h5, h6, h7⟩ := sk
  obtain ⟨ja, hja⟩ := I.rj a (by rw [hR]; simp)
  have hia : i = a ∨ (i ∉ R ∧ lvl T a ≤ lvl T i) := by
   by_cases e : i = a
   ·exact .inl e
   ·right
    have hn : i ∉ R := fun hi => by
     obtain ⟨R2, h⟩ := I.fst_in F hi
     rw [hR] at h
     cases h
     exact e rfl
    exact ⟨hn, lvl_mono (I.tk i j F.1) (I.tk a ja hja) (I.nf i j a ja F.1 hn (by rw [hR]; simp) hja (ah_tot (fun h => e h.symm) (F.2 a ja hja)))⟩
  have hle : lvl T a ≤ lvl T i := by
   rcases hia with rfl | h
   ·exact Int.le_refl _
   ·exact h.2
  have hno : ¬ ∀ x ∈ L, x.1 = ((a : Nat) : Int) → ceil T x.2 < lvl T i := by
   intro hall
   apply hl
   refine ceilF_lt (fun x hx => ?_) hpos
   rw [h1] at hx
   rcases List.mem_append.1 hx with h | h
   ·have := h4 x h; omega
   ·exact hall x (by rw [h1]; exact List.mem_append_right _ h) (h3 x h)
  have hne : L1 ≠ [] := by
   intro e
   apply hno
   intro x hx e2
   rw [h1, e, List.append_nil] at hx
   exact absurd e2 (h7.no h5 x hx)
  refine ⟨a, R', rfl, ?_, ?_, ?_⟩
  ·obtain ⟨y, hy⟩ : ∃ y, L1.getLast? = some y := by
    rw [List.getLast?_eq_some_getLast hne]
    exact ⟨_, rfl⟩
   have : L.getLast? = some y := by rw [h1, List.getLast?_append, hy]; rfl
   rw [topL, this]
   show (y.1, true) = _
   rw [h3 y (List.mem_of_getLast? hy)]
  ·rw [h1, held_app, held_no (h7.no h5), held_all h3]
   cases L1 with
   | nil => exact absurd rfl hne
   | cons x l => simp
  ·rcases hia with h | h
   ·exact .inl h
   ·exact .inr ⟨by rw [← hR]; exact h.1, hno⟩
theorem Inv.free {a : Nat} {R' : List Nat} (I : Inv T js L now (a :: R') o) {x u : Int} (hu : uses T a x = true) (hx : (u, x) ∈ L) : u = ((a : Nat) : Int) := by
 obtain ⟨ja, hja⟩ := I.rj a (by simp)
 obtain ⟨L0, L1, o0, h1, h2, h3, h4, h5, h6, h7⟩ := I.sk
 rw [h1] at hx
 rcases List.mem_append.1 hx with h | h
 ·have : ceil T x < lvl T a := h4 _ h
  have := ceil_ge (I.lt hja) hu
  omega
 ·exact h3 _ h
theorem Inv.rel {t : Tk} (I : Inv T js L now R o) (h0 : js[i]? = some none) (ht : T[i]? = some t) (h1 : j'.g = false) (h2 : j'.t = t) (h3 : j'.s = 0) (h4 : j'.e = now + t.d) : Inv T (js.set i (some j')) L now R o := by
 have hno : ∀ j, ¬ hasJ js i j := fun j h => by rw [hasJ, h0] at h; cases h
 have hiR : i ∉ R := fun h => by obtain ⟨j, hj⟩ := I.rj i h; exact hno j hj
 have old : ∀ {n jn}, hasJ (js.set i (some j')) n jn → (n = i ∧ jn = j') ∨ (n ≠ i ∧ hasJ js n jn) := fun h => by
  rcases hasJ_set.1 h with ⟨a, _, b⟩ | h
  ·exact .inl ⟨a, (Option.some.inj b).symm⟩
  ·exact .inr h
 refine ⟨I.n4, by rw [List.length_set]; exact I.jl, fun n jn h => ?_, fun n jn h => ?_, fun n jn h => ?_, fun a ha => ?_, fun n jn h hg => ?_, fun f jf a ja b1 b2 b3 b4 b5 => ?_, I.sk.congr fun a ha ja h => ?_, I.ln⟩
 ·rcases old h with ⟨rfl, rfl⟩ | ⟨_, h⟩
  ·rw [h2]; exact ht
  ·exact I.tk n jn h
 ·rcases old h with ⟨rfl, rfl⟩ | ⟨_, h⟩
  ·exact .inl h3
  ·exact I.sec n jn h
 ·rcases old h with ⟨rfl, rfl⟩ | ⟨_, h⟩
  ·rw [h4, h2]; exact Int.le_refl _
  ·exact I.e n jn h
 ·obtain ⟨ja, hja⟩ := I.rj a ha
  exact ⟨ja, hasJ_set.2 (.inr ⟨fun e => hiR (e ▸ ha), hja⟩)⟩
 ·rcases old h with ⟨rfl, rfl⟩ | ⟨_, h⟩
  ·rw [h1] at hg; cases hg
  ·exact I.gR n jn h hg
 ·have ha : hasJ js a ja := by
   rcases old b4 with ⟨rfl, _⟩ | ⟨_, h⟩
   ·exact absurd b3 hiR
   ·exact h
  rcases old b1 with ⟨rfl, rfl⟩ | ⟨_, h⟩
  ·have q := I.e a ja ha
   rw [ah_iff] at b5
   rw [h2]
   simp only [h4] at b5
   omega
  ·exact I.nf f jf a ja h b2 b3 ha b5
 ·rcases old h with ⟨rfl, _⟩ | ⟨_, h⟩
  ·exact absurd ha hiR
  ·exact ⟨ja, h, rfl⟩
theorem Inv.job (I : Inv T js L now R o) (hj : hasJ js i j) (h1 : j'.e = j.e) (h2 : j'.t = j.t) (h3 : j'.s = 0 ∨ j'.s = 1) (h4 : j'.g = true → i ∈ R) (hs : Sk T js R L' o') (hl : (L'.length : Int) ≤ now) : Inv T (js.set i (some j')) L' now R o' := by
 have hil : i < js.length := (List.getElem?_eq_some_iff.1 hj).1
 have old : ∀ {n jn}, hasJ (js.set i (some j')) n jn → ∃ k, hasJ js n k ∧ k.e = jn.e ∧ k.t = jn.t ∧ (jn = j' ∧ n = i ∨ jn = k) := fun h => by
  rcases hasJ_set.1 h with ⟨a, _, b⟩ | ⟨_, h⟩
  ·cases b
   subst a
   exact ⟨j, hj, h1.symm, h2.symm, .inl ⟨rfl, rfl⟩⟩
  ·exact ⟨_, h, rfl, rfl, .inr rfl⟩
 refine ⟨I.n4, by rw [List.length_set]; exact I.jl, fun n jn h => ?_, fun n jn h => ?_, fun n jn h => ?_, fun a ha => ?_, fun n jn h hg => ?_, fun f jf a ja b1 b2 b3 b4 b5 => ?_, hs.congr fun a ha ja h => ?_, hl⟩
 ·obtain ⟨k, k1, k2, k3, k4⟩ := old h
  rw [← k3]; exact I.tk n k k1
 ·obtain ⟨k, k1, k2, k3, k4⟩ := old h
  rcases k4 with ⟨rfl, _⟩ | rfl
  ·exact h3
  ·exact I.sec n _ k1
 ·obtain ⟨k, k1, k2, k3, k4⟩ := old h
  rw [← k2, ← k3]; exact I.e n k k1
 ·obtain ⟨ja, hja⟩ := I.rj a ha
  by_cases e : a = i
  ·exact ⟨j', hasJ_set.2 (.inl ⟨e, hil, rfl⟩)⟩
  ·exact ⟨ja, hasJ_set.2 (.inr ⟨e, hja⟩)⟩
 ·obtain ⟨k, k1, k2, k3, k4⟩ := old h
  rcases k4 with ⟨rfl, rfl⟩ | rfl
  ·exact h4 hg
  ·exact I.gR n _ k1 hg
 ·obtain ⟨k, k1, k2, k3, k4⟩ := old b1
  obtain ⟨l, l1, l2, l3, l4⟩ := old b4
  rw [← k3, ← l3]
  rw [← k2, ← l2] at b5
  exact I.nf f k a l k1 b2 b3 l1 b5
 ·obtain ⟨k, k1, k2, _⟩ := old h
  exact ⟨k, k1, k2⟩
theorem Inv.end' {a : Nat} {R' : List Nat} (I : Inv T js L now (a :: R') o) : Inv T (js.set a none) (dropL L ((a : Nat) : Int)) now R' (o.filter fun x => !(x == a)) := by
 have hna : a ∉ R' := by obtain ⟨L0, L1, o0, h1, h2, h3, h4, h5, h6, h7⟩ := I.sk; exact h5
 have old : ∀ {n jn}, hasJ (js.set a none) n jn → n ≠ a ∧ hasJ js n jn := fun h => by
  rcases hasJ_set.1 h with ⟨_, _, b⟩ | h
  ·cases b
  ·exact h
 refine ⟨I.n4, by rw [List.length_set]; exact I.jl, fun n jn h => I.tk n jn (old h).2, fun n jn h => I.sec n jn (old h).2, fun n jn h => I.e n jn (old h).2, fun b hb => ?_, fun n jn h hg => ?_, fun f jf b jb b1 b2 b3 b4 b5 => ?_, I.sk.end'.congr fun b hb jb h => ⟨jb, (old h).2, rfl⟩, ?_⟩
 ·obtain ⟨jb, hjb⟩ := I.rj b (List.mem_cons_of_mem _ hb)
  exact ⟨jb, hasJ_set.2 (.inr ⟨fun e => hna (e ▸ hb), hjb⟩)⟩
 ·obtain ⟨h1, h2⟩ := old h
  exact (List.mem_cons.1 (I.gR n jn h2 hg)).resolve_left h1
 ·obtain ⟨h1, h2⟩ := old b1
  exact I.nf f jf b jb h2 (fun h => (List.mem_cons.1 h).elim h1 b2) (List.mem_cons_of_mem _ b3) (old b4).2 b5
 ·have := I.ln
  have : (dropL L ((a : Nat) : Int)).length ≤ L.length := List.length_filter_le ..
  omega
end
def JE (js js' : Js) : Prop := (∀ i j', hasJ js' i j' → ∃ j, hasJ js i j ∧ j.e = j'.e) ∧ ∀ i j, hasJ js i j → ∃ j', hasJ js' i j' ∧ j'.e = j.e
theorem JE.refl (js : Js) : JE js js := ⟨fun i j h => ⟨j, h, rfl⟩, fun i j h => ⟨j, h, rfl⟩⟩
theorem JE.set {js : Js} {i : Nat} {j j' : Jb} (h : hasJ js i j) (he : j'.e = j.e) : JE js (js.set i (some j')) := by
 have hl : i < js.length := (List.getElem?_eq_some_iff.1 h).1
 refine ⟨fun n jn hn => ?_, fun n jn hn => ?_⟩
 ·rcases hasJ_set.1 hn with ⟨rfl, _, e⟩ | ⟨_, h'⟩
  ·cases e
   exact ⟨j, h, he.symm⟩
  ·exact ⟨jn, h', rfl⟩
 ·by_cases e : n = i
  ·subst e
   rw [hn.eq h]
   exact ⟨j', hasJ_set.2 (.inl ⟨rfl, hl, rfl⟩), he⟩
  ·exact ⟨jn, hasJ_set.2 (.inr ⟨e, hn⟩), rfl⟩
def Blk (T : List Tk) (js : Js) (L : List En) (R : List Nat) (a : Nat) : Prop := ∀ t jt ja, hasJ js t jt → hasJ js a ja → t ∉ R → ah (t, jt.e) (a, ja.e) = true →
 ∃ f jf, hasJ js f jf ∧ f ∉ R ∧ (f = t ∨ ah (f, jf.e) (t, jt.e) = true) ∧ ¬ ∀ x ∈ L, x.1 = ((a : Nat) : Int) → ceil T x.2 < lvl T f
def Goes (T : List Tk) (js : Js) (L : List En) (R : List Nat) (a : Nat) (R2 : List Nat) : Prop := (R = a :: R2 ∨ (a ∉ R ∧ (∃ j, FstJ js a j) ∧ R2 = R)) ∧ Blk T js L (a :: R2) a
def Mv (T : List Tk) (js : Js) (L : List En) (R : List Nat) (js' : Js) (L' : List En) (R' : List Nat) : Prop := (R' = R ∧ js' = js ∧ L' = L) ∨
 ∃ a R2, Goes T js L R a R2 ∧ ((R' = a :: R2 ∧ JE js js' ∧ ∀ x ∈ L', x.1 = ((a : Nat) : Int) ∨ x ∈ L) ∨ (R' = R2 ∧ js' = js.set a none ∧ L' = dropL L ((a : Nat) : Int)))
section
variable {T : List Tk} {js : Js} {L L' : List En} {now : Int} {R : List Nat} {o o' : List Nat} {i : Nat} {j : Jb}
theorem blk_fst (F : FstJ js i j) {R : List Nat} : Blk T js L R i := by
 intro t jt ja ht ha _ h
 rw [ha.eq F.1, F.2 t jt ht] at h
 cases h
theorem Inv.goes_fst (I : Inv T js L now R o) (F : FstJ js i j) (h : j.g = true ∨ lvl T i > ceilF T L) : ∃ R2, Goes T js L R i R2 ∧ Inv T js L now (i :: R2) o := by
 rcases I.who F h with ⟨R2, rfl⟩ | ⟨hn, I2⟩
 ·exact ⟨R2, ⟨.inl rfl, blk_fst F⟩, I⟩
 ·exact ⟨R, ⟨.inr ⟨hn, ⟨j, F⟩, rfl⟩, blk_fst F⟩, I2⟩
theorem Inv.goes_top (I : Inv T js L now R o) (F : FstJ js i j) (hl : ¬ lvl T i > ceilF T L) : ∃ a R2, topL L = (((a : Nat) : Int), true) ∧ Goes T js L R a R2 ∧ Inv T js L now (a :: R2) o := by
 obtain ⟨a, R2, rfl, h1, h2, h3⟩ := I.top F hl
 refine ⟨a, R2, h1, ⟨.inl rfl, ?_⟩, I⟩
 rcases h3 with rfl | ⟨h3, h4⟩
 ·exact blk_fst F
 ·intro t jt ja ht ha hn h
  refine ⟨i, j, F.1, h3, ?_, h4⟩
  by_cases e : i = t
  ·exact .inl e
  ·exact .inr (ah_tot (fun h => e h.symm) (F.2 t jt ht))
end
def mkP (t : Tk) : Int := 1 + bring t.p 64
def mkD (t : Tk) : Int := 1 + bring t.d (mkP t)
def mkW (t : Tk) : Int := 1 + bring t.w (mkD t)
def mkA (t : Tk) : Int := bring t.a 16
def mkT (t : Tk) : Tk := ⟨mkP t, mkD t, mkW t, mkA t, if decide (mkA t > 0) = true then mkW t else 0, 0, 0, 0⟩
theorem bring_in {i n : Int} (h : 0 < n) : 0 ≤ bring i n ∧ bring i n < n := ⟨Int.emod_nonneg _ (by omega), Int.emod_lt_of_pos _ h⟩
theorem made_l {l : List Tk} {k B : Nat} {Q : AX → Env → Heap → Prop} (hl : l.length < 2 ^ 62) (hQ : ∀ h v e, GR 8 0 h v (tks ((l.take 4).map mkT)) → AllAt e [(3, v)] → Q (.exit 0) e h) :
  ∀ (m i : Nat) (h : Heap) (v : AV) (env : Env), 4 - i = m → i ≤ 4 → i ≤ l.length → GR 8 0 h v (tks ((l.take i).map mkT)) →
   AllAt env [(0, .fz k (tks l)), (3, v), (4, .int .i64 ((i : Nat) : Int))] → VC fs ms B false (.loop L_escapementlaw18_made_0) env h Q := by
 intro m
 induction m using Nat.strongRecOn with
 | ind m ih =>
 intro i h v env hm hi hil hg henv
 refine vc_slots 6 _ henv ?_
 refine vc_loop (z := true) ?_
 have hct : decide (((i : Nat) : Int) < (((tks l).length : Nat) : Int)) = decide (i < l.length) := by rw [len_tks]; simp
 cases c : decide (i < l.length) with
 | false =>
  rw [c] at hct
  set_option smartUnfolding false in conv => whnf
  refine brf (hct) (fun hc => ?_)
  (try rw [hc])
  set_option smartUnfolding false in conv => whnf
  have hge : l.length ≤ i := by have := of_decide_eq_false c; omega
  refine hQ h v _ ?_ ⟨rfl, trivial⟩
  rw [List.take_of_length_le (show l.length ≤ 4 by omega), ← List.take_of_length_le hge]
  exact hg
 | true =>
  rw [c] at hct
  have hlt : i < l.length := of_decide_eq_true c
  set_option smartUnfolding false in conv => whnf
  refine brt (hct) (fun hc => ?_)
  (try rw [hc])
  set_option smartUnfolding false in conv => whnf
  refine br (fun hc => ?_) (fun hc => ?_) <;> (try rw [hc]) <;> (set_option smartUnfolding false in conv => whnf)
  ·have hi4 : i < 4 := by have := of_decide_eq_true hc; omega
   refine ⟨_, idx_tk hlt, ?_⟩
   set_option smartUnfolding false in conv => whnf
   obtain ⟨t, ht⟩ : ∃ t, t = l[i] := ⟨_, rfl⟩
   have bp := bring_in (i := t.p) (n := 64) (by decide)
   have ep : IntKind.i64.wrap (1 + bring t.p 64) = mkP t := IntWalk.i64_in _ (by omega)
   have kp : 0 < mkP t ∧ mkP t ≤ 64 := ⟨by show 0 < 1 + bring t.p 64; omega, by show 1 + bring t.p 64 ≤ 64; omega⟩
   have bd := bring_in (i := t.d) kp.1
   have ed : IntKind.i64.wrap (1 + bring t.d (mkP t)) = mkD t := IntWalk.i64_in _ (by omega)
   have kd : 0 < mkD t ∧ mkD t ≤ 64 := ⟨by show 0 < 1 + bring t.d (mkP t); omega, by show 1 + bring t.d (mkP t) ≤ 64; omega⟩
   have bw := bring_in (i := t.w) kd.1
   have ew : IntKind.i64.wrap (1 + bring t.w (mkD t)) = mkW t := IntWalk.i64_in _ (by omega)
   rw [← ht]
   refine ⟨.int .i64 t.p, rfl, ?_⟩
   set_option smartUnfolding false in conv => whnf
   refine vd_pure (bring_c t.p 64 (by decide) (by decide)) ?_
   set_option smartUnfolding false in conv => whnf
   rw [ep]
   refine ⟨_, idx_tk hlt, ?_⟩
   set_option smartUnfolding false in conv => whnf
   rw [← ht]
   refine ⟨.int .i64 t.d, rfl, ?_⟩
   set_option smartUnfolding false in conv => whnf
   refine vd_pure (bring_c t.d (mkP t) kp.1 (by omega)) ?_
   set_option smartUnfolding false in conv => whnf
   rw [ed]
   refine ⟨_, idx_tk hlt, ?_⟩
   set_option smartUnfolding false in conv => whnf
   rw [← ht]
   refine ⟨.int .i64 t.w, rfl, ?_⟩
   set_option smartUnfolding false in conv => whnf
   refine vd_pure (bring_c t.w (mkD t) kd.1 (by omega)) ?_
   set_option smartUnfolding false in conv => whnf
   rw [ew]
   refine ⟨_, idx_tk hlt, ?_⟩
   set_option smartUnfolding false in conv => whnf
   rw [← ht]
   refine ⟨.int .i64 t.a, rfl, ?_⟩
   set_option smartUnfolding false in conv => whnf
   refine vd_pure (bring_c t.a 16 (by decide) (by decide)) ?_
   set_option smartUnfolding false in conv => whnf
   refine eff_o (sto_o get_new_same rfl (Nat.le_refl _) rfl) fun h1 e1 => ?_
   have fr1 : Fr h h1 [] := by rw [e1]; exact ((Fr.refl h []).new (x := _)).setn (Nat.le_refl _)
   have gb : h1.get h.next = some (.cells (tk ⟨mkP t, mkD t, mkW t, mkA t, 0, 0, 0, 0⟩).cells true 0) := by rw [e1, get_set_same]; rfl
   have nb : h.next < h1.next := by rw [e1]; exact Nat.lt_succ_self _
   clear e1
   set_option smartUnfolding false in conv => whnf
   refine ⟨winOk_of (by (set_option smartUnfolding false in conv => whnf); repeat' (first | exact trivial | (exact ⟨rfl, rfl, .inr ⟨_, _, rfl⟩⟩) | (refine ⟨rfl, rfl, .inl ⟨rfl, fun o ho => ?_⟩⟩; cases ho; first | rfl) | (exact ⟨rfl, .inr ⟨_, _, rfl⟩⟩) | (refine ⟨rfl, .inl ⟨rfl, fun i o hi ho => ?_⟩⟩; cases hi; cases ho; first | rfl) | (refine And.intro (fun hon => (Bool.false_ne_true hon).elim) ?_ <;> set_option smartUnfolding false in conv => whnf) | (refine And.intro (fun _ => ?_) ?_ <;> set_option smartUnfolding false in conv => whnf) | (refine And.intro ?_ ?_ <;> set_option smartUnfolding false in conv => whnf))), ?_⟩
   set_option smartUnfolding false in conv => whnf
   refine ⟨_, ld1 gb rfl, ?_⟩
   set_option smartUnfolding false in conv => whnf
   have step : ∀ (h2 : Heap), Fr h h2 [] → h2.get h.next = some (.cells (tk (mkT t)).cells true 0) → ∀ (K : Prop), (∀ v' g', GR 8 0 g' v' (tks ((l.take (i + 1)).map mkT)) → eV (.append 8 64) [v, .sl h2.next 0 1 1 false] (h2.new (.cells (tk (mkT t)).cells true 0)) = some (v', g') → K) → K := by
    intro h2 fr2 g2 K hK
    have hlen : ((l.take i).map mkT).length = i := by rw [List.length_map, List.length_take]; omega
    obtain ⟨v', g', a1, a2, a3, a4⟩ := (hg.keep fr2 (by simp)).app (bytes := 64) (Nat.zero_le _) (x := tk (mkT t)) rfl rfl (size_tksR _) (by rw [len_tks, hlen]; omega) (by rw [len_tks, hlen]; omega)
    refine hK v' g' ?_ a1
    have : (l.take (i + 1)).map mkT = (l.take i).map mkT ++ [mkT t] := by rw [take_next hlt, List.map_append, ht]; rfl
    rw [this, tks, List.map_append]
    exact a2
   refine br (fun hc => ?_) (fun hc => ?_) <;> (try rw [hc]) <;> (set_option smartUnfolding false in conv => whnf)
   ·refine ⟨_, ld1 gb rfl, ?_⟩
    set_option smartUnfolding false in conv => whnf
    refine eff_o (sto_o gb rfl (Nat.le_of_ble_eq_true rfl) rfl) fun h2 e2 => ?_
    have em : tk (mkT t) = .agg [.int .i64 (mkP t), .int .i64 (mkD t), .int .i64 (mkW t), .int .i64 (mkA t), .int .i64 (mkW t), .int .i64 0, .int .i64 0, .int .i64 0] := by
     rw [mkT, if_pos hc]; rfl
    have g2 : h2.get h.next = some (.cells (tk (mkT t)).cells true 0) := by rw [em, e2]; exact get_set_same
    have fr2 : Fr h h2 [] := by rw [e2]; exact fr1.setn (Nat.le_refl _)
    set_option smartUnfolding false in conv => whnf
    refine ⟨_, Ads.ldN (n := 8) g2 (Nat.le_refl _), ?_⟩
    set_option smartUnfolding false in conv => whnf
    refine step h2 fr2 g2 _ fun v' g' hg' ha => ⟨_, _, ha, ?_⟩
    set_option smartUnfolding false in conv => whnf
    exact ih (4 - (i + 1)) (by omega) (i + 1) _ _ _ rfl (by omega) (by omega) hg' ⟨rfl, rfl, inc_slot (by omega), trivial⟩
   ·have em : tk (mkT t) = .agg [.int .i64 (mkP t), .int .i64 (mkD t), .int .i64 (mkW t), .int .i64 (mkA t), .int .i64 0, .int .i64 0, .int .i64 0, .int .i64 0] := by
     rw [mkT, if_neg (by rw [hc]; simp)]; rfl
    have g2 : h1.get h.next = some (.cells (tk (mkT t)).cells true 0) := by rw [em]; exact gb
    refine ⟨_, Ads.ldN (n := 8) g2 (Nat.le_refl _), ?_⟩
    set_option smartUnfolding false in conv => whnf
    refine step h1 fr1 g2 _ fun v' g' hg' ha => ⟨_, _, ha, ?_⟩
    set_option smartUnfolding false in conv => whnf
    exact ih (4 - (i + 1)) (by omega) (i + 1) _ _ _ rfl (by omega) (by omega) hg' ⟨rfl, rfl, inc_slot (by omega), trivial⟩
  ·have h4 : i = 4 := by have := of_decide_eq_false hc; omega
   subst h4
   exact hQ h v _ hg ⟨rfl, trivial⟩
def madeT (l : List Tk) : List Tk := (l.take 4).map mkT
theorem madeT_4 (l : List Tk) : (madeT l).length ≤ 4 := by rw [madeT, List.length_map, List.length_take]; omega
theorem grow3 {l : List Tk} (h : growK (tks l).length = 3) : l = [] := by
 cases l with
 | nil => rfl
 | cons x l => cases h
theorem made_c (k : Nat) (l : List Tk) (hl : l.length < 2 ^ 62) : PC fs ms f_escapementlaw18_made [.fz k (tks l)] (.fz (growK (tks (madeT l)).length) (tks (madeT l))) := by
 refine ⟨by simp [clL, AV.cl, cl_tks], by simp [AV.cl, cl_tks], ?_⟩
 refine vd_begin (af := C_escapementlaw18_made) rfl (Nat.le_of_ble_eq_true rfl) ?_
 generalize hQ : (fun (u : AV) (g : Heap) => Frz (fun _ => True) g u (.fz (growK (tks (madeT l)).length) (tks (madeT l)))) = Q
 set_option smartUnfolding false in conv => whnf
 refine vc_seq true ?_
 set_option smartUnfolding false in conv => whnf
 refine vc_seq true ?_
 set_option smartUnfolding false in conv => whnf
 refine vc_seqV (vc_seq true ?_)
 set_option smartUnfolding false in conv => whnf
 refine vc_block ?_
 refine made_l hl ?_ 4 0 _ .nils _ rfl (by omega) (by omega) .nil ⟨rfl, rfl, rfl, trivial⟩
 intro h v e hg he
 refine vc_slots 3 _ he (vpC_sound (z := true) ?_)
 set_option smartUnfolding false in conv => whnf
 subst hQ
 have hg : GR 8 0 h v (tks (madeT l)) := hg
 have hs := size_tksR (madeT l)
 have hcl := cl_tks (madeT l)
 generalize tks (madeT l) = M at *
 rcases hg with ⟨rfl, rfl⟩ | ⟨hne, b, h1, h2, rfl, h4⟩
 ·exact .nils
 ·cases M with
  | nil => exact absurd rfl hne
  | cons m M => exact frz_open trivial h4 rfl hs rfl hcl
section
variable {h : Heap} {col : Nat → Nat} {r : Nat} {st : St} {Q : AV → Heap → Prop} {i : Nat} {j : Jb} {tk0 : Tk} {l : List Op} {kk : Nat} {now n : Int}
theorem rmrel_c (R : RA h col r st) (hk : kk = 3 → l = []) (hl : l.length ≤ 1000) (h0 : askE st.T i ≠ 0 → Q (.int .i64 (askE st.T i)) h)
  (h1 : ∀ (i' : Nat) (j : Jb), ((i : Nat) : Int) = ((i' : Nat) : Int) → st.j[i']? = some (some j) → Q (.int .i64 141) h)
  (h2 : ∀ (i' : Nat) (tk : Tk), ((i : Nat) : Int) = ((i' : Nat) : Int) → st.T[i']? = some tk → st.j[i']? = some none → jnewE tk l now ≠ 0 → ∀ h' col', RA h' col' r st → Kc h h' col col' R3K → Q (.int .i64 (jnewE tk l now)) h')
  (h3 : ∀ (i' : Nat) (tk : Tk) (n : Int), ((i : Nat) : Int) = ((i' : Nat) : Int) → st.T[i']? = some tk → st.j[i']? = some none → jnewE tk l now = 0 → st.g[i']? = some n → gAsk n now ≠ 0 → ∀ h' col', RA h' col' r st → Kc h h' col col' R3K → Q (.int .i64 (gAsk n now)) h')
  (h4 : ∀ (i' : Nat) (tk : Tk) (n : Int), ((i : Nat) : Int) = ((i' : Nat) : Int) → st.T[i']? = some tk → st.j[i']? = some none → jnewE tk l now = 0 → st.g[i']? = some n → gAsk n now = 0 → ∀ h' col', RA h' col' r { st with j := st.j.set i' (some (jNew tk l now)), g := st.g.set i' (gNx tk.p n now) } → Kc h h' col col' R3K → Q (.int .i64 0) h') :
  VD fs ms f_room_Room_Release [.ptr r 0, .int .i64 ((i : Nat) : Int), .fz kk (ops l), .int .i64 now] h Q :=
 rmrel_g R (bs := []) (by simp) (fun t0 Q a b => jnew_c hk (by omega) a b) h0 h1 h2 h3 h4
theorem ask_lt (hi : i < st.T.length) : askE st.T i = 0 := by rw [askE, decide_eq_false (by omega), decide_eq_false (by omega)]; rfl
theorem rel_ok (R : RA h col r st) (hk : kk = 3 → l = []) (hl : l.length ≤ 1000) (ht : st.T[i]? = some tk0) (hj : st.j[i]? = some none) (hg : st.g[i]? = some n) (hz : jnewE tk0 l now = 0) (ha : gAsk n now = 0)
  (hQ : ∀ h' col', RA h' col' r { st with j := st.j.set i (some (jNew tk0 l now)), g := st.g.set i (gNx tk0.p n now) } → Q (.int .i64 0) h') : VD fs ms f_room_Room_Release [.ptr r 0, .int .i64 ((i : Nat) : Int), .fz kk (ops l), .int .i64 now] h Q := by
 refine rmrel_c R hk hl (fun h => (h (ask_lt (List.getElem?_eq_some_iff.1 ht).1)).elim) (fun i' j' hi' hj' => ?_) (fun i' t' hi' ht' _ hn => ?_) (fun i' t' n' hi' ht' _ _ hg' hn => ?_) (fun i' t' n' hi' ht' hj' _ hg' _ h' col' R' _ => ?_)
 all_goals obtain rfl : i = i' := by omega
 ·rw [hj] at hj'; cases hj'
 ·rw [ht] at ht'; cases ht'; exact absurd hz hn
 ·rw [hg] at hg'; cases hg'; exact absurd ha hn
 ·rw [ht] at ht'; cases ht'
  rw [hg] at hg'; cases hg'
  exact hQ h' col' R'
theorem rel_busy (R : RA h col r st) (hk : kk = 3 → l = []) (hl : l.length ≤ 1000) (hi : i < st.T.length) (hj : st.j[i]? = some (some j)) (hQ : Q (.int .i64 141) h) : VD fs ms f_room_Room_Release [.ptr r 0, .int .i64 ((i : Nat) : Int), .fz kk (ops l), .int .i64 now] h Q := by
 refine rmrel_c R hk hl (fun h => (h (ask_lt hi)).elim) (fun i' j' hi' hj' => hQ) (fun i' t' hi' ht' hj' hn => ?_) (fun i' t' n' hi' ht' hj' _ hg' hn => ?_) (fun i' t' n' hi' ht' hj' _ hg' _ h' col' R' _ => ?_)
 all_goals (obtain rfl : i = i' := by omega); rw [hj] at hj'; cases hj'
theorem rel_early (R : RA h col r st) (hk : kk = 3 → l = []) (hl : l.length ≤ 1000) (ht : st.T[i]? = some tk0) (hj : st.j[i]? = some none) (hg : st.g[i]? = some n) (hz : jnewE tk0 l now = 0) (ha : gAsk n now = 140)
  (hQ : ∀ h' col', RA h' col' r st → Q (.int .i64 140) h') : VD fs ms f_room_Room_Release [.ptr r 0, .int .i64 ((i : Nat) : Int), .fz kk (ops l), .int .i64 now] h Q := by
 refine rmrel_c R hk hl (fun h => (h (ask_lt (List.getElem?_eq_some_iff.1 ht).1)).elim) (fun i' j' hi' hj' => ?_) (fun i' t' hi' ht' _ hn => ?_) (fun i' t' n' hi' ht' _ _ hg' hn h' col' R' _ => ?_) (fun i' t' n' hi' ht' hj' _ hg' hn h' col' R' _ => ?_)
 all_goals obtain rfl : i = i' := by omega
 ·rw [hj] at hj'; cases hj'
 ·rw [ht] at ht'; cases ht'; exact absurd hz hn
 ·rw [hg] at hg'; cases hg'
  rw [ha]
  exact hQ h' col' R'
 ·rw [hg] at hg'; cases hg'
  rw [ha] at hn
  cases hn
theorem run_val {e : Int} {j' : Jb} (R : RA h col r st) (hi : i < st.T.length) (hj : st.j[i]? = some (some j)) (he : jRunE j = e) (hj' : jRun j = j') (hQ : ∀ h' col', RA h' col' r { st with j := st.j.set i (some j') } → Q (.int .i64 e) h') : VD fs ms f_room_Room_Run [.ptr r 0, .int .i64 ((i : Nat) : Int)] h Q := by
 subst he
 subst hj'
 refine rmrun_c R (fun h => (h (ofE_some hi hj)).elim) (fun i' j' hi' hj' h' col' R' _ => ?_)
 obtain rfl : i = i' := by omega
 rw [hj] at hj'; cases hj'
 exact hQ h' col' R'
theorem did_val {e : Int} {j' : Jb} (R : RA h col r st) (hi : i < st.T.length) (hj : st.j[i]? = some (some j)) (he : jDidE j = e) (hj' : jDid j = j') (hQ : ∀ h' col', RA h' col' r { st with j := st.j.set i (some j') } → Q (.int .i64 e) h') : VD fs ms f_room_Room_Did [.ptr r 0, .int .i64 ((i : Nat) : Int)] h Q := by
 subst he
 subst hj'
 refine rmdid_c R (fun h => (h (ofE_some hi hj)).elim) (fun i' j' hi' hj' h' col' R' _ => ?_)
 obtain rfl : i = i' := by omega
 rw [hj] at hj'; cases hj'
 exact hQ h' col' R'
theorem lock_val {x : Int} {j' : Jb} (R : RA h col r st) (hL : st.L.length ≤ 900) (hi : i < st.T.length) (hj : st.j[i]? = some (some j)) (hs : j.s < 2) (hz : lockE st.T st.L i x = 0) (hj' : jLk j = j') (hQ : ∀ h' col', RA h' col' r { st with L := st.L ++ [(((i : Nat) : Int), x)], j := st.j.set i (some j') } → Q (.int .i64 0) h') :
  VD fs ms f_room_Room_Lock [.ptr r 0, .int .i64 ((i : Nat) : Int), .int .i64 x] h Q := by
 subst hj'
 refine rmlock_c R hL (fun h => (h (ofE_some hi hj)).elim) (fun i' j' hi' hj' hs' => ?_) (fun i' j' hi' hj' _ hn => (hn hz).elim) (fun i' j' hi' hj' _ _ h' col' R' _ => ?_)
 all_goals (obtain rfl : i = i' := by omega); rw [hj] at hj'; cases hj'
 ·omega
 ·exact hQ h' col' R'
theorem unlock_val {m : Nat} {j' : Jb} (R : RA h col r st) (hL : st.L.length ≤ 900) (hi : i < st.T.length) (hj : st.j[i]? = some (some j)) (hz : unlE st.T st.L i = 0) (hm : lastI st.L i = ((m : Nat) : Int)) (hj' : jUnl (st.L.eraseIdx m) i j = j')
  (hQ : ∀ h' col', RA h' col' r { st with L := st.L.eraseIdx m, j := st.j.set i (some j') } → Q (.int .i64 0) h') : VD fs ms f_room_Room_Unlock [.ptr r 0, .int .i64 ((i : Nat) : Int)] h Q := by
 subst hj'
 refine rmunlock_c R hL (fun h => (h (ofE_some hi hj)).elim) (fun i' j' hi' hj' hn => (hn hz).elim) (fun i' j' hi' hj' _ m' _ hm' h' col' R' _ => ?_)
 obtain rfl : i = i' := by omega
 obtain rfl : m = m' := by omega
 rw [hj] at hj'; cases hj'
 exact hQ h' col' R'
theorem end_val (R : RA h col r st) (hL : st.L.length ≤ 900) (hi : i < st.T.length) (hj : st.j[i]? = some (some j)) (hQ : ∀ h' col', RA h' col' r { st with L := dropL st.L i, j := st.j.set i none } → Q (.bool true) h') : VD fs ms f_room_Room_End [.ptr r 0, .int .i64 ((i : Nat) : Int)] h Q := by
 refine rmend_c R hL (fun h => (h (ofE_some hi hj)).elim) (fun i' j' hi' hj' h' col' R' _ => ?_)
 obtain rfl : i = i' := by omega
 exact hQ h' col' R'
theorem fst_uniq {js : Js} {i i' : Nat} {j j' : Jb} (F : FstJ js i j) (F' : FstJ js i' j') : i = i' := by
 by_cases e : i = i'
 ·exact e
 ·have := ah_tot (a := (i', j'.e)) (b := (i, j.e)) (fun h => e h.symm) (F.2 i' j' F'.1)
  rw [F'.2 i j F.1] at this
  cases this
theorem who_one (R : RA h col r st) (hL : st.L.length ≤ 900) (hs : ∀ (i : Nat) (j : Jb), st.j[i]? = some (some j) → j.s < 2) (F : FstJ st.j i j) (hc : j.g = true ∨ lvl st.T i > ceilF st.T st.L) (hQ : Q (.bool true) h) : VD fs ms f_escapementlaw18_who [.ptr r 0, .int .i64 ((i : Nat) : Int)] h Q := by
 refine vd_start (af := C_escapementlaw18_who) true rfl (Nat.le_of_ble_eq_true rfl) ?_
 set_option smartUnfolding false in conv => whnf
 refine rmwho_c R hL (fun i' j' hj' h2 => ?_) (fun hno => (hno i j F.1).elim) (fun _ i' j' F' _ => ?_) (fun _ i' j' F' hg hl => ?_)
 ·have := hs i' j' hj'; omega
 ·obtain rfl := fst_uniq F F'
  set_option smartUnfolding false in conv => whnf
  refine brt (by simp) (fun hc => ?_)
  (try rw [hc])
  set_option smartUnfolding false in conv => whnf
  exact hQ
 ·obtain rfl := fst_uniq F F'
  obtain rfl : j = j' := hasJ.eq F.1 F'.1
  rcases hc with h | h
  ·rw [h] at hg; cases hg
  ·exact (hl h).elim
theorem who_two {t : Nat} (R : RA h col r st) (hL : st.L.length ≤ 900) (hs : ∀ (i : Nat) (j : Jb), st.j[i]? = some (some j) → j.s < 2) (F : FstJ st.j i j) (hc : j.g = false) (hc2 : ¬ lvl st.T i > ceilF st.T st.L) (ht : topL st.L = (((t : Nat) : Int), true)) (hQ : Q (.bool true) h) : VD fs ms f_escapementlaw18_who [.ptr r 0, .int .i64 ((t : Nat) : Int)] h Q := by
 refine vd_start (af := C_escapementlaw18_who) true rfl (Nat.le_of_ble_eq_true rfl) ?_
 set_option smartUnfolding false in conv => whnf
 refine rmwho_c R hL (fun i' j' hj' h2 => ?_) (fun hno => (hno i j F.1).elim) (fun _ i' j' F' h => ?_) (fun _ i' j' F' hg hl => ?_)
 ·have := hs i' j' hj'; omega
 ·obtain rfl := fst_uniq F F'
  obtain rfl : j = j' := hasJ.eq F.1 F'.1
  rcases h with h | h
  ·rw [h] at hc; cases hc
  ·exact (hc2 h).elim
 ·rw [ht]
  set_option smartUnfolding false in conv => whnf
  refine brt (by simp) (fun hc => ?_)
  (try rw [hc])
  set_option smartUnfolding false in conv => whnf
  exact hQ
end
def wT0 : Tk := ⟨20, 10, 4, 1, 1, 0, 0, 0⟩
def wT1 : Tk := ⟨30, 20, 6, 1, 3, 0, 0, 0⟩
def wLong : List Op := [⟨2, 0, []⟩, ⟨1, 3, []⟩, ⟨3, 0, []⟩, ⟨1, 3, []⟩]
def wRun : List Op := [⟨1, 2, []⟩]
theorem fr_deln {h H : Heap} {b : Nat} (f : Fr h H []) (hb : h.next ≤ b) : Fr h (delAll [b] H) [] := by
 refine ⟨f.next, fun c hc _ => ?_⟩
 show (H.del b).get c = _
 rw [get_del_ne (by omega)]
 exact f.keep c hc (by simp)
theorem frz_new {h : Heap} {s : Nat} {l : List AV} {vs : List AV} (hs : allSize s l = true) (hc : clL l = true) (hv : vs = flatCells l) : Frz (· ∈ [h.next]) (h.new (.cells vs true 0)) (.sl h.next 0 l.length l.length false) (.fz 0 l) :=
 frz_pre (by simp) get_new_same (by rw [hv, List.append_nil]) hs rfl (Nat.le_refl _) hc
theorem two_get {js : Js} {a b : Option Jb} (e : js = [a, b]) (i : Nat) (j : Jb) (h : js[i]? = some (some j)) : (i = 0 ∧ a = some j) ∨ (i = 1 ∧ b = some j) := by
 subst e
 match i, h with
 | 0, h => exact .inl ⟨rfl, Option.some.inj h⟩
 | 1, h => exact .inr ⟨rfl, Option.some.inj h⟩
 | n + 2, h => cases h
theorem two_s {js : Js} {a b : Option Jb} (e : js = [a, b]) (h : (a.map Jb.s).getD 0 < 2 ∧ (b.map Jb.s).getD 0 < 2) (i : Nat) (j : Jb) (hj : js[i]? = some (some j)) : j.s < 2 := by
 rcases two_get e i j hj with ⟨_, rfl⟩ | ⟨_, rfl⟩
 ·exact h.1
 ·exact h.2
theorem fst_0 {js : Js} {a : Jb} {b : Option Jb} (e : js = [some a, b]) (h : ah (0, a.e) (0, a.e) = false ∧ ah (1, (b.map Jb.e).getD 0) (0, a.e) = false) : FstJ js 0 a := by
 refine ⟨by rw [e]; rfl, fun i j hj => ?_⟩
 rcases two_get e i j hj with ⟨rfl, h1⟩ | ⟨rfl, rfl⟩
 ·cases h1; exact h.1
 ·exact h.2
theorem fst_1 {js : Js} {b : Jb} (e : js = [none, some b]) (h : ah (1, b.e) (1, b.e) = false) : FstJ js 1 b := by
 refine ⟨by rw [e]; rfl, fun i j hj => ?_⟩
 rcases two_get e i j hj with ⟨rfl, h1⟩ | ⟨rfl, h1⟩
 ·cases h1
 ·cases h1; exact h
def wS0 : St := ⟨[wT0, wT1], [], [none, none], [0, 0]⟩
def wj1 (l : List Op) (n s k : Int) : Jb := ⟨wT1, l, 20, n, s, k, 0, true⟩
def wj0 : Jb := ⟨wT0, wRun, 11, 0, 0, 0, 0, false⟩
def wSt (L : List En) (a b : Option Jb) (g : Int) : St := ⟨[wT0, wT1], L, [a, b], [g, 30]⟩
theorem works18_c : PC fs ms f_escapementlaw18_works [] (.bool true) := by
 refine pc_of rfl rfl ?_
 refine vd_begin (af := C_escapementlaw18_works) rfl (Nat.le_of_ble_eq_true rfl) ?_
 generalize hQ : (fun (v : AV) (_ : Heap) => v = .bool true) = Q
 set_option smartUnfolding false in conv => whnf
 refine vc_seq true ?_
 set_option smartUnfolding false in conv => whnf
 refine vc_seq true ?_
 set_option smartUnfolding false in conv => whnf
 refine vc_slots 3 [(1, .sl 0 0 2 2 false)] ⟨rfl, trivial⟩ (vc_frz [0] (i := 1) (v' := .fz 0 (tks [wT0, wT1])) rfl (frz_new (h := ⟨0, .nil⟩) (s := 8) (l := tks [wT0, wT1]) rfl rfl rfl) ?_)
 refine vc_slots 3 [(1, .fz 0 (tks [wT0, wT1]))] ⟨rfl, trivial⟩ ?_
 generalize delAll [0] _ = h1
 refine vc_seq true ?_
 set_option smartUnfolding false in conv => whnf
 refine rmnew_c (col := fun _ => 0) 0 [wT0, wT1] (fun h => by cases h) (by decide) (fun hn => (hn (by decide)).elim) (fun _ h2 col2 r R0 _ => ?_)
 set_option smartUnfolding false in conv => whnf
 refine vc_seqV (vpC_sound (z := true) ?_)
 set_option smartUnfolding false in conv => whnf
 refine vc_seq true ?_
 set_option smartUnfolding false in conv => whnf
 refine vc_seq true ?_
 set_option smartUnfolding false in conv => whnf
 have R0 : RA h2 col2 r wS0 := R0
 have fr0 : Fr h2 ((h2.new (.cells (flatCells (ops wLong)) true 0)).new (.cells (flatCells (ops wRun)) true 0)) [] := (Fr.refl h2 []).new.new
 have R1 := R0.nil (fr_deln (b := h2.next) (fr_deln (b := h2.next + 1) fr0 (Nat.le_succ _)) (Nat.le_refl _))
 have gA : (delAll [h2.next + 1] ((h2.new (.cells (flatCells (ops wLong)) true 0)).new (.cells (flatCells (ops wRun)) true 0))).get h2.next = some (.cells (flatCells (ops wLong)) true 0) := by
  show (Heap.del _ _).get _ = _
  rw [get_del_ne (by omega), get_new_ne (Nat.lt_succ_self _)]
  exact get_new_same
 show VC fs ms _ _ _ _ ((h2.new (.cells (flatCells (ops wLong)) true 0)).new (.cells (flatCells (ops wRun)) true 0)) _
 refine vc_slots 3 [(2, .ptr r 0), (4, .sl h2.next 0 4 4 false), (5, .sl (h2.next + 1) 0 1 1 false)] ⟨rfl, rfl, rfl, trivial⟩ ?_
 refine vc_frz [h2.next + 1] (i := 5) (v' := .fz 0 (ops wRun)) rfl (frz_new (h := h2.new (.cells (flatCells (ops wLong)) true 0)) (s := 3) (l := ops wRun) rfl rfl rfl) ?_
 refine vc_frz [h2.next] (i := 4) (v' := .fz 0 (ops wLong)) rfl (frz_pre (s := 3) (rest := []) (by simp) gA rfl rfl rfl (Nat.le_refl _) rfl) ?_
 refine vc_slots 3 [(2, .ptr r 0), (4, .fz 0 (ops wLong)), (5, .fz 0 (ops wRun))] ⟨rfl, rfl, rfl, trivial⟩ ?_
 generalize delAll [h2.next] _ = h3 at *
 refine vc_seq true ?_
 set_option smartUnfolding false in conv => whnf
 refine rel_ok (i := 1) (tk0 := wT1) (n := 0) R1 (fun h => by cases h) (by decide) rfl rfl rfl rfl rfl fun h4 c4 R4 => ?_
 set_option smartUnfolding false in conv => whnf
 refine who_one (i := 1) R4 (by decide) (two_s rfl (by decide)) (fst_1 rfl (by decide)) (.inr (by decide)) ?_
 set_option smartUnfolding false in conv => whnf
 refine lock_val (i := 1) R4 (by decide) (by decide) rfl (by decide) (by decide) rfl fun h5 c5 R5 => ?_
 set_option smartUnfolding false in conv => whnf
 refine did_val (i := 1) (e := 0) R5 (by decide) rfl rfl rfl fun h6 c6 R6 => ?_
 set_option smartUnfolding false in conv => whnf
 replace R6 : RA h6 c6 r (wSt [(1, 0)] none (some (wj1 [⟨1, 3, []⟩, ⟨3, 0, []⟩, ⟨1, 3, []⟩] 0 1 0)) 0) := R6
 refine vc_seq true ?_
 set_option smartUnfolding false in conv => whnf
 refine rel_ok (i := 0) (tk0 := wT0) (n := 0) R6 (fun h => by cases h) (by decide) rfl rfl rfl rfl rfl fun h7 c7 R7 => ?_
 replace R7 : RA h7 c7 r (wSt [(1, 0)] (some wj0) (some (wj1 [⟨1, 3, []⟩, ⟨3, 0, []⟩, ⟨1, 3, []⟩] 0 1 0)) 21) := R7
 set_option smartUnfolding false in conv => whnf
 refine who_two (i := 0) (t := 1) R7 (by decide) (two_s rfl (by decide)) (fst_0 rfl (by decide)) rfl (by decide) rfl ?_
 set_option smartUnfolding false in conv => whnf
 refine vc_seq true ?_
 set_option smartUnfolding false in conv => whnf
 refine run_val (i := 1) (e := 0) (j' := wj1 [⟨1, 2, []⟩, ⟨3, 0, []⟩, ⟨1, 3, []⟩] 1 1 1) R7 (by decide) rfl rfl rfl fun h8 c8 R8 => ?_
 replace R8 : RA h8 c8 r (wSt [(1, 0)] (some wj0) (some (wj1 [⟨1, 2, []⟩, ⟨3, 0, []⟩, ⟨1, 3, []⟩] 1 1 1)) 21) := R8
 set_option smartUnfolding false in conv => whnf
 refine run_val (i := 1) (e := 0) (j' := wj1 [⟨1, 1, []⟩, ⟨3, 0, []⟩, ⟨1, 3, []⟩] 2 1 2) R8 (by decide) rfl rfl rfl fun h9 c9 R9 => ?_
 replace R9 : RA h9 c9 r (wSt [(1, 0)] (some wj0) (some (wj1 [⟨1, 1, []⟩, ⟨3, 0, []⟩, ⟨1, 3, []⟩] 2 1 2)) 21) := R9
 set_option smartUnfolding false in conv => whnf
 refine run_val (i := 1) (e := 0) (j' := wj1 [⟨3, 0, []⟩, ⟨1, 3, []⟩] 3 1 3) R9 (by decide) rfl rfl rfl fun h10 c10 R10 => ?_
 replace R10 : RA h10 c10 r (wSt [(1, 0)] (some wj0) (some (wj1 [⟨3, 0, []⟩, ⟨1, 3, []⟩] 3 1 3)) 21) := R10
 set_option smartUnfolding false in conv => whnf
 refine unlock_val (i := 1) (m := 0) (j' := wj1 [⟨3, 0, []⟩, ⟨1, 3, []⟩] 3 0 0) R10 (by decide) (by decide) rfl (by decide) (by decide) rfl fun h11 c11 R11 => ?_
 replace R11 : RA h11 c11 r (wSt [] (some wj0) (some (wj1 [⟨3, 0, []⟩, ⟨1, 3, []⟩] 3 0 0)) 21) := R11
 set_option smartUnfolding false in conv => whnf
 refine did_val (i := 1) (e := 0) (j' := wj1 [⟨1, 3, []⟩] 3 0 0) R11 (by decide) rfl rfl rfl fun h12 c12 R12 => ?_
 replace R12 : RA h12 c12 r (wSt [] (some wj0) (some (wj1 [⟨1, 3, []⟩] 3 0 0)) 21) := R12
 set_option smartUnfolding false in conv => whnf
 refine who_one (i := 0) R12 (by decide) (two_s rfl (by decide)) (fst_0 rfl (by decide)) (.inr (by decide)) ?_
 set_option smartUnfolding false in conv => whnf
 refine vc_seq true ?_
 set_option smartUnfolding false in conv => whnf
 refine rel_busy (i := 0) R12 (fun h => by cases h) (by decide) (by decide) rfl ?_
 set_option smartUnfolding false in conv => whnf
 refine end_val (i := 0) R12 (by decide) (by decide) rfl fun h13 c13 R13 => ?_
 replace R13 : RA h13 c13 r (wSt [] none (some (wj1 [⟨1, 3, []⟩] 3 0 0)) 21) := R13
 set_option smartUnfolding false in conv => whnf
 refine rel_early (i := 0) (tk0 := wT0) (n := 21) R13 (fun h => by cases h) (by decide) rfl rfl rfl rfl rfl fun h14 c14 R14 => ?_
 set_option smartUnfolding false in conv => whnf
 refine rel_ok (i := 0) (tk0 := wT0) (n := 21) R14 (fun h => by cases h) (by decide) rfl rfl rfl rfl rfl fun h15 c15 R15 => ?_
 set_option smartUnfolding false in conv => whnf
 refine vpC_sound (z := true) ?_
 set_option smartUnfolding false in conv => whnf
 subst hQ
 rfl
def nz (l : List Nat) : List Int := l.map fun x : Nat => (x : Int)
theorem nz_len (l : List Nat) : (nz l).length = l.length := by simp [nz]
structure PAt (h : Heap) (col : Nat → Nat) (p r k : Nat) (T : List Tk) (now : Int) (o : List Nat) (ov : AV) : Prop where
 lt : p < h.next
 co : col p = 200
 get : h.get p = some (.cells [.ptr r 0, .fz k (tks T), .int .i64 now, ov] true 0)
 row : (o = [] ∧ ov = .nils) ∨ ∃ b, ov = .sl b 0 o.length o.length true ∧ b < h.next ∧ col b = 201 ∧ h.get b = some (.cells (ints (nz o)) true 1)
section
variable {h h' : Heap} {col col' : Nat → Nat} {p r k : Nat} {T : List Tk} {now : Int} {o : List Nat} {ov : AV} {Q : AV → Heap → Prop} {st : St}
theorem PAt.keep {K : Nat → Prop} (P : PAt h col p r k T now o ov) (f : Kc h h' col col' K) (h1 : ¬ K 200) (h2 : ¬ K 201) : PAt h' col' p r k T now o ov := by
 refine ⟨Nat.lt_of_lt_of_le P.lt f.next, (f.col p P.lt).trans P.co, (f.keep p P.lt (by rw [P.co]; exact h1)).trans P.get, ?_⟩
 rcases P.row with h | ⟨b, a1, a2, a3, a4⟩
 ·exact .inl h
 ·exact .inr ⟨b, a1, Nat.lt_of_lt_of_le a2 f.next, (f.col b a2).trans a3, (f.keep b a2 (by rw [a3]; exact h2)).trans a4⟩
theorem PAt.nil (P : PAt h col p r k T now o ov) (f : Fr h h' []) : PAt h' col p r k T now o ov := P.keep (K := fun _ => False) (Kc.same f) id id
theorem PAt.rk (P : PAt h col p r k T now o ov) (f : Kc h h' col col' RK) : PAt h' col' p r k T now o ov := P.keep f (fun h => by have := h.2; omega) (fun h => by have := h.2; omega)
theorem RA.pk {K : Nat → Prop} (R : RA h col r st) (f : Kc h h' col col' K) (hK : ∀ n, K n → 200 ≤ n) : RA h' col' r st :=
 R.keep f (fun n h1 h2 h => by have := hK n h; omega) (fun i hi h => by have := hK _ h; omega)
theorem PAt.len (P : PAt h col p r k T now o ov) : pV .lenS [ov] = some (.int .i64 ((o.length : Nat) : Int)) := by
 rcases P.row with ⟨rfl, rfl⟩ | ⟨b, rfl, _⟩ <;> rfl
theorem PAt.at (P : PAt h col p r k T now o ov) {i : Nat} (hi : i < o.length) : ∃ b, pV (.iaddrS 1) [ov, .int .i64 ((i : Nat) : Int)] = some (.ptr b (i * 1)) ∧ rV .load1 [.ptr b (i * 1)] h = some (.int .i64 ((o[i] : Nat) : Int)) := by
 rcases P.row with ⟨h, _⟩ | ⟨b, rfl, a2, a3, a4⟩
 ·rw [h] at hi; simp at hi
 ·refine ⟨b, idx_slS3 hi, ld1 a4 ?_⟩
  rw [Nat.mul_one, ints, nz, List.map_map, List.getElem?_map, List.getElem?_eq_getElem hi]
  rfl
theorem norun_c {i : Nat} {j : Jb} (R : RA h col r st) (hj : hasJ st.j i j) (hlt : i < st.T.length) (hQ : ∀ h', Fr h h' [] → Q (.bool (!rowR j.l)) h') : VD fs ms f_escapementlaw18_noRun [.ptr r 0, .int .i64 ((i : Nat) : Int)] h Q := by
 refine vd_start (af := C_escapementlaw18_noRun) true rfl (Nat.le_of_ble_eq_true rfl) ?_
 set_option smartUnfolding false in conv => whnf
 refine rnext_c R (fun hn => (hn (ofE_some hlt hj)).elim) (fun n jn ht hjn h1 fr1 => ?_)
 have hni : n = i := by omega
 subst hni
 have hjj : j = jn := hasJ.eq (js := st.j) hj hjn
 subst hjj
 set_option smartUnfolding false in conv => whnf
 refine eff_o (sto_o get_new_same rfl (Nat.le_refl _) rfl) fun h2 e2 => ?_
 have fr2 : Fr h h2 [] := by rw [e2]; exact (fr1.new (x := _)).setn fr1.next
 have g2 : h2.get h1.next = some (.cells (op (j.l.headD opZ)).cells true 0) := by rw [e2]; exact get_set_same
 clear e2
 set_option smartUnfolding false in conv => whnf
 cases hl : j.l with
 | nil =>
  rw [hl] at hQ
  set_option smartUnfolding false in conv => whnf
  exact hQ _ fr2
 | cons x l =>
  rw [hl] at hQ g2
  set_option smartUnfolding false in conv => whnf
  refine ⟨_, ld1 g2 rfl, ?_⟩
  set_option smartUnfolding false in conv => whnf
  exact hQ _ fr2
end
section
variable {h h' h0 : Heap} {col col' : Nat → Nat} {p r k : Nat} {T : List Tk} {now : Int} {o : List Nat} {ov : AV} {st : St}
def goneL (o : List Nat) (t : Nat) : List Nat := o.filter fun x => !(x == t)
theorem gone_next {i t : Nat} (hi : i < o.length) : goneL (o.take (i + 1)) t = goneL (o.take i) t ++ (if o[i] = t then [] else [o[i]]) := by
 rw [goneL, take_next hi, List.filter_append]
 congr 1
 by_cases e : o[i] = t <;> simp [e]
theorem gone_l {t B : Nat} {Q : AX → Env → Heap → Prop} (P : PAt h0 col p r k T now o ov) (hl : o.length ≤ 1000) (hQ : ∀ h v e, IRow h0.next h v (nz (goneL o t)) → Fr h0 h [] → AllAt e [(0, .ptr p 0), (4, v)] → Q (.exit 0) e h) :
  ∀ (m i : Nat) (h : Heap) (v : AV) (env : Env), o.length - i = m → i ≤ o.length → IRow h0.next h v (nz (goneL (o.take i) t)) → Fr h0 h [] →
   AllAt env [(0, .ptr p 0), (1, .int .i64 ((t : Nat) : Int)), (4, v), (5, .int .i64 ((i : Nat) : Int))] → VC fs ms B false (.loop L_escapementlaw18_play_gone_0) env h Q := by
 intro m
 induction m using Nat.strongRecOn with
 | ind m ih =>
 intro i h v env hm hi hr fr henv
 have P1 := P.nil fr
 refine vc_slots 5 _ henv ?_
 refine vc_loop (z := true) ?_
 set_option smartUnfolding false in conv => whnf
 refine ⟨_, ld1 P1.get rfl, ?_⟩
 set_option smartUnfolding false in conv => whnf
 refine opt_go P1.len ?_
 set_option smartUnfolding false in conv => whnf
 refine br (fun hc => ?_) (fun hc => ?_) <;> (try rw [hc]) <;> (set_option smartUnfolding false in conv => whnf)
 ·have hlt : i < o.length := by have := of_decide_eq_true hc; omega
  obtain ⟨b, a1, a2⟩ := P1.at hlt
  repeat (first | (refine ⟨_, ld1 P1.get rfl, ?_⟩; set_option smartUnfolding false in conv => whnf))
  refine ⟨_, a1, ?_⟩
  set_option smartUnfolding false in conv => whnf
  refine ⟨_, a2, ?_⟩
  set_option smartUnfolding false in conv => whnf
  have hnx := gone_next (t := t) hlt
  refine br (fun hc => ?_) (fun hc => ?_) <;> (try rw [hc]) <;> (set_option smartUnfolding false in conv => whnf)
  ·have hne : o[i] ≠ t := by
    intro e
    rw [e] at hc
    simp at hc
   rw [if_neg hne] at hnx
   repeat (first | (refine ⟨_, ld1 P1.get rfl, ?_⟩; set_option smartUnfolding false in conv => whnf))
   refine ⟨_, a1, ?_⟩
   set_option smartUnfolding false in conv => whnf
   refine ⟨_, a2, ?_⟩
   set_option smartUnfolding false in conv => whnf
   have hlen : (nz (goneL (o.take i) t)).length ≤ 1048576 := by
    rw [nz_len]
    have : (goneL (o.take i) t).length ≤ (o.take i).length := List.length_filter_le ..
    rw [List.length_take] at this
    omega
   obtain ⟨v', g', b1, b2, b3, b4, b5⟩ := hr.app fr.next hlen ((o[i] : Nat) : Int)
   refine ⟨_, _, b1, ?_⟩
   set_option smartUnfolding false in conv => whnf
   refine ih (o.length - (i + 1)) (by omega) (i + 1) _ _ _ rfl (by omega) (by rw [hnx, nz, List.map_append]; exact b2) ⟨Nat.le_trans fr.next b3, fun c hc _ => (b4 c (Nat.lt_of_lt_of_le hc fr.next) (hr.off (.inl hc))).trans (fr.keep c hc (by simp))⟩ ⟨rfl, rfl, rfl, inc_slot (by omega), trivial⟩
  ·have he : o[i] = t := by
    simp at hc
    omega
   rw [if_pos he, List.append_nil] at hnx
   exact ih (o.length - (i + 1)) (by omega) (i + 1) _ _ _ rfl (by omega) (by rw [hnx]; exact hr) fr ⟨rfl, rfl, rfl, inc_slot (by omega), trivial⟩
 ·have hge : i = o.length := by have := of_decide_eq_false hc; omega
  subst hge
  rw [List.take_length] at hr
  exact hQ _ _ _ hr fr ⟨rfl, rfl, trivial⟩
theorem gone_c {t : Nat} {Q : AV → Heap → Prop} (P : PAt h col p r k T now o ov) (hl : o.length ≤ 1000) (hQ : ∀ h' col' v' w, PAt h' col' p r k T now (goneL o t) v' → Kc h h' col col' (· = 200) → Q w h') : VD fs ms f_escapementlaw18_play_gone [.ptr p 0, .int .i64 ((t : Nat) : Int)] h Q := by
 refine vd_begin (af := C_escapementlaw18_play_gone) rfl (Nat.le_of_ble_eq_true rfl) ?_
 set_option smartUnfolding false in conv => whnf
 refine vc_seq true ?_
 set_option smartUnfolding false in conv => whnf
 refine vc_seqV (vc_seq true ?_)
 set_option smartUnfolding false in conv => whnf
 refine vc_block ?_
 refine gone_l P hl ?_ o.length 0 h .nils _ rfl (Nat.zero_le _) (.inl ⟨rfl, rfl⟩) (Fr.refl _ _) ⟨rfl, rfl, rfl, rfl, trivial⟩
 intro h1 v e hr fr he
 refine vc_slots 3 _ he (vpC_sound (z := true) ?_)
 set_option smartUnfolding false in conv => whnf
 have P1 := P.nil fr
 have hv : v.cells = [v] ∧ v.flat = true := by
  rcases hr with ⟨_, rfl⟩ | ⟨b, _, _, rfl, _⟩ <;> exact ⟨rfl, rfl⟩
 refine eff_o (sto_o (o := 0 + 3) (n := 1) P1.get (by rw [hv.1]; rfl) (Nat.le_of_ble_eq_true rfl) (by rw [hv.1]; show cond v.flat _ _ = _; rw [hv.2]; rfl)) fun h2 e2 => ?_
 rw [hv.1] at e2
 set_option smartUnfolding false in conv => whnf
 have f1 : Kc h h2 col (cadd col h.next 201) (· = 200) := by
  refine ⟨by rw [e2]; exact fr.next, fun c hc hn => ?_, fun c hc => cadd_old hc⟩
  rw [e2, get_set_ne (by intro e; rw [e, P.co] at hn; exact hn rfl)]
  exact fr.keep c hc (by simp)
 refine hQ h2 (cadd col h.next 201) v _ ⟨by rw [e2]; exact P1.lt, (cadd_old P.lt).trans P.co, by rw [e2]; exact get_set_same, ?_⟩ f1
 rcases hr with ⟨h1', h2'⟩ | ⟨b, a1, a2, a3, a4⟩
 ·left
  refine ⟨?_, h2'⟩
  have := congrArg List.length h1'
  rw [nz_len] at this
  exact List.length_eq_zero_iff.1 this
 ·right
  rw [nz_len] at a3
  refine ⟨b, a3, by rw [e2]; exact a2, cadd_new a1, ?_⟩
  have := P.lt
  rw [e2, get_set_ne (by omega)]
  exact a4
theorem IRow.at' {lo : Nat} {h : Heap} {v : AV} {l : List Int} (hr : IRow lo h v l) {i : Nat} (hi : i < l.length) : ∃ b, pV (.iaddrS 1) [v, .int .i64 ((i : Nat) : Int)] = some (.ptr b (i * 1)) ∧ rV .load1 [.ptr b (i * 1)] h = some (.int .i64 l[i]) := by
 obtain ⟨b, h1, h2⟩ := hr.read.2 i hi
 refine ⟨b, h1, ?_⟩
 rw [h2, List.getD_eq_getElem?_getD, List.getElem?_eq_getElem hi]
 rfl
theorem pheld_in {lo B i : Nat} {x : Int} {v : AV} {l : List Int} {Q : AX → Env → Heap → Prop} (hr : IRow lo h v l) (hl : l.length ≤ 1000)
  (h0 : x ∉ l → ∀ e, AllAt e [(0, .ptr p 0), (1, .int .i64 x), (6, .int .i64 ((i : Nat) : Int))] → Q (.exit 2) e h) (h1 : x ∈ l → ∀ e, AllAt e [(4, .int .i64 ((i : Nat) : Int)), (5, .bool true)] → Q .ret e h) :
  ∀ (m n : Nat) (env : Env), l.length - n = m → n ≤ l.length → x ∉ l.take n → AllAt env [(0, .ptr p 0), (1, .int .i64 x), (6, .int .i64 ((i : Nat) : Int)), (7, v), (8, .int .i64 ((n : Nat) : Int))] →
   VC fs ms B false (.loop L_escapementlaw18_play_held_1) env h Q := by
 intro m
 induction m using Nat.strongRecOn with
 | ind m ih =>
 intro n env hm hn hno henv
 refine vc_slots 4 _ henv ?_
 refine vc_loop (z := true) ?_
 set_option smartUnfolding false in conv => whnf
 refine opt_go hr.read.1 ?_
 set_option smartUnfolding false in conv => whnf
 refine br (fun hc => ?_) (fun hc => ?_) <;> (try rw [hc]) <;> (set_option smartUnfolding false in conv => whnf)
 ·have hlt : n < l.length := by have := of_decide_eq_true hc; omega
  obtain ⟨b, a1, a2⟩ := IRow.at' hr hlt
  refine ⟨_, a1, ?_⟩
  set_option smartUnfolding false in conv => whnf
  refine ⟨_, a2, ?_⟩
  set_option smartUnfolding false in conv => whnf
  refine br (fun hc => ?_) (fun hc => ?_) <;> (try rw [hc]) <;> (set_option smartUnfolding false in conv => whnf)
  ·exact h1 (by rw [← eq_of_beq hc]; exact List.getElem_mem hlt) _ ⟨rfl, rfl, trivial⟩
  ·refine ih (l.length - (n + 1)) (by omega) (n + 1) _ rfl (by omega) ?_ ⟨rfl, rfl, rfl, rfl, inc_slot (by omega), trivial⟩
   rw [take_next hlt, List.mem_append, List.mem_singleton]
   rintro (h | h)
   ·exact hno h
   ·rw [← h] at hc; simp at hc
 ·have hge : n = l.length := by have := of_decide_eq_false hc; omega
  rw [hge, List.take_length] at hno
  exact h0 hno _ ⟨rfl, rfl, rfl, trivial⟩
theorem endV_two {a b : Nat} {u v : AV} {e : Env} {h : Heap} {Q : AV → Heap → Prop} (h1 : Tr.get e a = some u) (h2 : Tr.get e b = some v) (hq : Q (.tup [u, v]) h) : endV [.tmp a, .tmp b] Q .ret e h := by
 simp only [endV, resAllV, resOfV, h1, h2]
 exact hq
theorem rheld_any {i : Nat} {Q : AV → Heap → Prop} (R : RA h col r st) (hL : st.L.length ≤ 1000) (hi : i < st.T.length)
  (hQ : ∀ h' v l, IRow h.next h' v l → Fr h h' [] → (∀ x, x ∈ l ↔ ∃ j, hasJ st.j i j ∧ x ∈ heldL st.L i) → l.length ≤ st.L.length → (∀ j, hasJ st.j i j → l = heldL st.L i) → Q v h') : VD fs ms f_room_Room_Held [.ptr r 0, .int .i64 ((i : Nat) : Int)] h Q := by
 refine rheld_c R hL (fun hn => ?_) (fun n j ht hj h' v hr fr => ?_)
 ·refine hQ h .nils [] (.inl ⟨rfl, rfl⟩) (Fr.refl _ _) (fun x => ⟨fun h => by simp at h, fun ⟨j, hj, _⟩ => (hn (ofE_some hi hj)).elim⟩) (Nat.zero_le _) (fun j hj => (hn (ofE_some hi hj)).elim)
 ·have : n = i := by omega
  subst this
  exact hQ h' v _ hr fr (fun x => ⟨fun h => ⟨j, hj, h⟩, fun ⟨_, _, h⟩ => h⟩) (held_len _ _) (fun _ _ => rfl)
theorem pheld_l {B : Nat} {x : Int} {Q : AX → Env → Heap → Prop} (P : PAt h0 col p r k st.T now o ov) (R : RA h0 col r st) (hL : st.L.length ≤ 1000) (hT : st.T.length ≤ 4)
  (q0 : (∀ (i : Nat) (j : Jb), i < st.T.length → hasJ st.j i j → x ∉ heldL st.L i) → ∀ h e, Fr h0 h [] → Q (.exit 0) e h)
  (q1 : ∀ (i : Nat) (j : Jb), i < st.T.length → hasJ st.j i j → x ∈ heldL st.L i → ∀ h e, Fr h0 h [] → AllAt e [(4, .int .i64 ((i : Nat) : Int)), (5, .bool true)] → Q .ret e h) :
  ∀ (m i : Nat) (h : Heap) (env : Env), st.T.length - i = m → i ≤ st.T.length → Fr h0 h [] → (∀ (n : Nat) (j : Jb), n < i → hasJ st.j n j → x ∉ heldL st.L n) →
   AllAt env [(0, .ptr p 0), (1, .int .i64 x), (6, .int .i64 ((i : Nat) : Int))] → VC fs ms B false (.loop L_escapementlaw18_play_held_0) env h Q := by
 intro m
 induction m using Nat.strongRecOn with
 | ind m ih =>
 intro i h env hm hi fr hno henv
 have P1 := P.nil fr
 have R1 := R.nil fr
 refine vc_slots 3 _ henv ?_
 refine vc_loopV (vc_seq true ?_)
 set_option smartUnfolding false in conv => whnf
 repeat (first | (refine ⟨_, ld1 P1.get rfl, ?_⟩; set_option smartUnfolding false in conv => whnf))
 rw [len_tks]
 refine br (fun hc => ?_) (fun hc => ?_) <;> (try rw [hc]) <;> (set_option smartUnfolding false in conv => whnf)
 ·have hlt : i < st.T.length := by have := of_decide_eq_true hc; omega
  refine vc_seqV (vc_block (vc_seq true ?_))
  set_option smartUnfolding false in conv => whnf
  repeat (first | (refine ⟨_, ld1 P1.get rfl, ?_⟩; set_option smartUnfolding false in conv => whnf))
  refine rheld_any R1 hL hlt fun h1 v l hr fr1 hx hl _ => ?_
  set_option smartUnfolding false in conv => whnf
  refine vc_seq true ?_
  set_option smartUnfolding false in conv => whnf
  refine vc_block ?_
  refine pheld_in (x := x) (i := i) hr (by omega) (fun hn e he => ?_) (fun hn e he => ?_) l.length 0 _ rfl (Nat.zero_le _) (by simp) ⟨rfl, rfl, rfl, rfl, rfl, trivial⟩
  ·show VC fs ms _ _ _ _ _ _
   refine vc_slots 3 _ he (vpC_sound (z := true) ?_)
   set_option smartUnfolding false in conv => whnf
   refine ih (st.T.length - (i + 1)) (by omega) (i + 1) _ _ rfl (by omega) (fr.trans fr1) (fun n j hn' hj => ?_) ⟨rfl, rfl, inc_slot (by omega), trivial⟩
   by_cases e : n = i
   ·subst e
    exact fun h => hn ((hx x).2 ⟨j, hj, h⟩)
   ·exact hno n j (by omega) hj
  ·obtain ⟨j, hj, h⟩ := (hx x).1 hn
   exact q1 i j hlt hj h _ _ (fr.trans fr1) he
 ·have hge : i = st.T.length := by have := of_decide_eq_false hc; omega
  exact q0 (fun n j hn hj => hno n j (by omega) hj) _ _ fr
theorem pheld_c {x : Int} {Q : AV → Heap → Prop} (P : PAt h col p r k st.T now o ov) (R : RA h col r st) (hL : st.L.length ≤ 1000) (hT : st.T.length ≤ 4)
  (q0 : (∀ (i : Nat) (j : Jb), i < st.T.length → hasJ st.j i j → x ∉ heldL st.L i) → ∀ h', Fr h h' [] → Q (.tup [.int .i64 0, .bool false]) h')
  (q1 : ∀ (i : Nat) (j : Jb), i < st.T.length → hasJ st.j i j → x ∈ heldL st.L i → ∀ h', Fr h h' [] → Q (.tup [.int .i64 ((i : Nat) : Int), .bool true]) h') :
  VD fs ms f_escapementlaw18_play_held [.ptr p 0, .int .i64 x] h Q := by
 refine vd_begin (af := C_escapementlaw18_play_held) rfl (Nat.le_of_ble_eq_true rfl) ?_
 set_option smartUnfolding false in conv => whnf
 refine vc_seq true ?_
 set_option smartUnfolding false in conv => whnf
 refine vc_seqV (vc_seq true ?_)
 set_option smartUnfolding false in conv => whnf
 refine vc_block ?_
 refine pheld_l P R hL hT (fun hn h1 e fr => ?_) (fun i j hi hj hx h1 e fr he => ?_) st.T.length 0 _ _ rfl (Nat.zero_le _) (Fr.refl _ _) (fun n j hn => by omega) ⟨rfl, rfl, rfl, trivial⟩
 ·refine vc_slots 0 [] trivial (vpC_sound (z := true) ?_)
  set_option smartUnfolding false in conv => whnf
  exact q0 hn _ fr
 ·exact endV_two he.1 he.2.1 (q1 i j hi hj hx _ fr)
end
structure Pl (h : Heap) (col : Nat → Nat) (p r k : Nat) (st : St) (now : Int) (R : List Nat) (o : List Nat) : Prop where
 at' : ∃ ov, PAt h col p r k st.T now o ov
 room : RA h col r st
 inv : Inv st.T st.j st.L now R o
def PK (n : Nat) : Prop := RK n ∨ n = 200 ∨ n = 201 ∨ n = 300
def opR : Op := ⟨1, 64, []⟩
theorem Pl.nil {h h' : Heap} {col : Nat → Nat} {p r k : Nat} {st : St} {now : Int} {R o : List Nat} (P : Pl h col p r k st now R o) (f : Fr h h' []) : Pl h' col p r k st now R o :=
 ⟨P.at'.imp fun _ a => a.nil f, P.room.nil f, P.inv⟩
section
variable {h h' h0 : Heap} {col col' : Nat → Nat} {p r k : Nat} {now : Int} {R o : List Nat} {st : St} {Q : AV → Heap → Prop}
theorem endV_one {t : Nat} {e : Env} {h : Heap} {Q : AV → Heap → Prop} {v : AV} (hg : Tr.get e t = some v) (hq : Q v h) : endV [.tmp t] Q .ret e h := by
 simp only [endV, resAllV, resOfV, hg]
 exact hq
theorem rem_nn {x n : Int} (h : 0 ≤ x) (hn : 0 < n) : pV (.bin .rem) [.int .i64 x, .int .i64 n] = some (.int .i64 (x % n)) := by
 rw [rem_val _ _ (by omega), Int.tmod_eq_emod_of_nonneg h]
theorem quo_nn {x n : Int} (h : 0 ≤ x) (hx : x < 1048576) (hn : 0 < n) : pV (.bin .quo) [.int .i64 x, .int .i64 n] = some (.int .i64 (x / n)) := by
 rw [quo_val _ _ (by omega), Int.tdiv_eq_ediv_of_nonneg h, IntWalk.i64_in]
 have := Int.ediv_nonneg h (Int.le_of_lt hn)
 have := Int.ediv_le_self n h
 omega
theorem PAt.push {T : List Tk} {ov : AV} (P : PAt h col p r k T now o ov) (hl : o.length ≤ 1000) (a : Nat) : ∃ v' g', eV (.append 1 8) [ov, .sl h.next 0 1 1 false] (h.new (.cells [.int .i64 ((a : Nat) : Int)] true 0)) = some (v', g') ∧ v'.cells = [v'] ∧ v'.flat = true ∧
  g'.get p = some (.cells [.ptr r 0, .fz k (tks T), .int .i64 now, ov] true 0) ∧ ∀ g2, g2 = g'.set p (.cells [.ptr r 0, .fz k (tks T), .int .i64 now, v'] true 0) → PAt g2 (cadd col h.next 201) p r k T now (o ++ [a]) v' ∧ Kc h g2 col (cadd col h.next 201) (fun n => n = 200 ∨ n = 201) := by
 have hsrc : srcV 1 (h.new (.cells [.int .i64 ((a : Nat) : Int)] true 0)) (.sl h.next 0 1 1 false) = some (1, [.int .i64 ((a : Nat) : Int)]) := src_new get_new_same rfl
 have plt := P.lt
 have fin : ∀ (g' : Heap), h.next + 1 < g'.next → g'.get (h.next + 1) = some (.cells (ints (nz (o ++ [a]))) true 1) → (∀ c, c < h.next → col c ≠ 201 → g'.get c = h.get c) →
   g'.get p = some (.cells [.ptr r 0, .fz k (tks T), .int .i64 now, ov] true 0) ∧ ∀ g2, g2 = g'.set p (.cells [.ptr r 0, .fz k (tks T), .int .i64 now, .sl (h.next + 1) 0 (o.length + 1) (o.length + 1) true] true 0) →
    PAt g2 (cadd col h.next 201) p r k T now (o ++ [a]) (.sl (h.next + 1) 0 (o.length + 1) (o.length + 1) true) ∧ Kc h g2 col (cadd col h.next 201) (fun n => n = 200 ∨ n = 201) := by
  intro g' n1 n2 n3
  refine ⟨(n3 p plt (by rw [P.co]; decide)).trans P.get, fun g2 e2 => ⟨⟨by rw [e2]; show p < g'.next; omega, (cadd_old plt).trans P.co, by rw [e2]; exact get_set_same, .inr ⟨h.next + 1, by rw [List.length_append]; rfl, by rw [e2]; exact n1, cadd_new (Nat.le_succ _), ?_⟩⟩, ?_, fun c hc hn => ?_, fun c hc => cadd_old hc⟩⟩
  ·rw [e2, get_set_ne (by omega)]
   exact n2
  ·rw [e2]; show h.next ≤ g'.next; omega
  ·rw [e2, get_set_ne (by intro e; rw [e, P.co] at hn; exact hn (.inl rfl))]
   exact n3 c hc (fun h => hn (.inr h))
 have ei : ints (nz o) ++ [.int .i64 ((a : Nat) : Int)] = ints (nz (o ++ [a])) := by rw [nz, nz, ints, ints, List.map_append, List.map_append]; rfl
 rcases P.row with ⟨h1, h2⟩ | ⟨b, h1, h2, h3, h4⟩
 ·subst h1 h2
  exact ⟨_, _, app_nilsS (nx := h.next + 1) (by omega) hsrc rfl, rfl, rfl, fin _ (Nat.lt_succ_self _) (get_new_same (h := h.new (.cells [.int .i64 ((a : Nat) : Int)] true 0))) (fun c hc _ => (get_new_ne (h := h.new (.cells [.int .i64 ((a : Nat) : Int)] true 0)) (show c < h.next + 1 by omega)).trans (get_new_ne hc))⟩
 ·subst h1
  have hg : (h.new (.cells [.int .i64 ((a : Nat) : Int)] true 0)).get b = some (.cells (ints (nz o)) true 1) := by rw [get_new_ne h2]; exact h4
  refine ⟨_, _, app_full hg (by rw [len_ints, nz_len, Nat.mul_one]) hsrc rfl (by omega) (by omega), rfl, rfl, fin _ (Nat.lt_succ_self _) ?_ (fun c hc hn => ?_)⟩
  ·rw [← ei]
   exact get_new_same (h := (h.new (.cells [.int .i64 ((a : Nat) : Int)] true 0)).del b)
  ·have hne : c ≠ b := by rintro rfl; exact hn h3
   exact (get_new_ne (h := (h.new (.cells [.int .i64 ((a : Nat) : Int)] true 0)).del b) (show c < h.next + 1 by omega)).trans ((get_del_ne hne).trans (get_new_ne hc))
theorem lock131 {T : List Tk} {L : List En} {t r : Int} (h : lockE T L t r = 131) : ∃ x ∈ L, x.2 = r := by
 rw [lockE] at h
 split at h
 ·rename_i h1
  rw [h] at h1
  rw [askE] at h
  split at h <;> cases h
 ·split at h
  ·cases h
  ·split at h
   ·rename_i h3
    obtain ⟨x, hx, h4⟩ := List.any_eq_true.1 h3
    exact ⟨x, hx, eq_of_beq h4⟩
   ·split at h <;> cases h
theorem lock0 {T : List Tk} {L : List En} {t r : Int} (h : lockE T L t r = 0) : uses T t r = true := by
 rw [lockE] at h
 split at h
 ·rename_i h1
  rw [h] at h1
  cases h1
 ·split at h
  ·cases h
  ·rename_i h2
   simpa using h2
theorem nodup_len : ∀ (n : Nat) (l : List Nat), l.Nodup → (∀ x ∈ l, x < n) → l.length ≤ n := pig
theorem Sk.nodup {T : List Tk} {js : Js} : ∀ {R : List Nat} {L : List En} {o : List Nat}, Sk T js R L o → R.Nodup ∧ o.Nodup
 | [], L, o, h => by rw [h.2]; exact ⟨.nil, .nil⟩
 | a :: R, L, o, ⟨L0, L1, o0, h1, h2, h3, h4, h5, h6, h7⟩ => by
  obtain ⟨n1, n2⟩ := h7.nodup
  refine ⟨List.nodup_cons.2 ⟨h5, n1⟩, ?_⟩
  rw [h2, List.nodup_append]
  refine ⟨n2, by cases L1.isEmpty <;> simp, fun x hx y hy e => ?_⟩
  subst e
  have : x = a := by cases hl : L1.isEmpty <;> rw [hl] at hy <;> simp at hy <;> exact hy
  subst this
  exact h5 (h7.omem x hx)
theorem Inv.olen {T : List Tk} {js : Js} {L : List En} {now : Int} {R o : List Nat} (I : Inv T js L now R o) : o.length ≤ 4 :=
 nodup_len 4 o I.sk.nodup.2 fun x hx => by
  obtain ⟨j, hj⟩ := I.rj x (I.sk.omem x hx)
  have := I.lt hj
  have := I.n4
  omega
theorem held_mem {L : List En} {t x : Int} : x ∈ heldL L t ↔ (t, x) ∈ L := by
 simp [heldL]
theorem step_end {B : Nat} (e : Env) (g : Heap) {Q : AV → Heap → Prop} (hq : Q (.bool true) g) : VC fs ms B false (.seq (.ops [zP 4 .mov [.c (.bool true)]]) .ret) e g (endV [.tmp 4] Q) := by
 refine vc_slots 0 [] trivial (vpC_sound (z := true) ?_)
 set_option smartUnfolding false in conv => whnf
 exact hq
theorem step_c {x : Int} (hx0 : 0 ≤ x) (hx : x < 9600) (P : Pl h col p r k st now R o) (hk : k = 3 → st.T = []) (hn0 : 0 ≤ now) (hn : now ≤ 500)
  (q0 : x % 3 = 0 → st.T ≠ [] → ∀ h' col', Pl h' col' p r k st now R o → Kc h h' col col' PK → Q (.bool true) h')
  (q1 : x % 3 = 0 → st.T ≠ [] → ∀ (i : Nat) (tk : Tk) (g : List Int), ((i : Nat) : Int) = x / 3 % st.T.length → st.T[i]? = some tk → st.j[i]? = some none → ∀ h' col', Pl h' col' p r k { st with j := st.j.set i (some (jNew tk [opR] now)), g := g } now R o → Kc h h' col col' PK → Q (.bool true) h')
  (q2 : ¬ (x % 3 = 0 ∧ st.T ≠ []) → ∀ h' col' js' L' R' o', Mv st.T st.j st.L R js' L' R' → Pl h' col' p r k { st with j := js', L := L' } (now + 1) R' o' → Kc h h' col col' PK → Q (.bool true) h') :
  VD fs ms f_escapementlaw18_play_step [.ptr p 0, .int .i64 x] h Q := by
 obtain ⟨⟨ov, PA⟩, RM, I⟩ := P
 refine vd_begin (af := C_escapementlaw18_play_step) rfl (Nat.le_of_ble_eq_true rfl) ?_
 set_option smartUnfolding false in conv => whnf
 refine vc_seq true ?_
 set_option smartUnfolding false in conv => whnf
 refine vc_seqV (VC.mono (Q := fun x' e' h' => (x' = .normal ∧ AllAt e' [(0, .ptr p 0), (1, .int .i64 x)] ∧ h' = h ∧ ¬ (x % 3 = 0 ∧ st.T ≠ [])) ∨ (x' = .ret ∧ endV [.tmp 4] Q .ret e' h')) (vpC_sound (z := true) ?_) ?_)
 ·set_option smartUnfolding false in conv => whnf
  refine ⟨_, rem_nn hx0 (by decide), ?_⟩
  set_option smartUnfolding false in conv => whnf
  refine br (fun hc => ?_) (fun hc => ?_) <;> (try rw [hc]) <;> (set_option smartUnfolding false in conv => whnf)
  ·have h3 : x % 3 = 0 := eq_of_beq hc
   repeat (first | (refine ⟨_, ld1 PA.get rfl, ?_⟩; set_option smartUnfolding false in conv => whnf))
   rw [len_tks]
   refine br (fun hc => ?_) (fun hc => ?_) <;> (try rw [hc]) <;> (set_option smartUnfolding false in conv => whnf)
   ·have hT : 0 < st.T.length := by have := of_decide_eq_true hc; omega
    have x3 := quo_nn hx0 (by omega) (show (0 : Int) < 3 by decide)
    have x30 : 0 ≤ x / 3 := Int.ediv_nonneg hx0 (by decide)
    have hTi : (0 : Int) < ((st.T.length : Nat) : Int) := by omega
    obtain ⟨i, hi⟩ : ∃ i : Nat, ((i : Nat) : Int) = x / 3 % ((st.T.length : Nat) : Int) := ⟨(x / 3 % ((st.T.length : Nat) : Int)).toNat, Int.toNat_of_nonneg (Int.emod_nonneg _ (by omega))⟩
    have hiT : i < st.T.length := by have := Int.emod_lt_of_pos (x / 3) hTi; omega
    have xr := rem_nn x30 hTi
    rw [← hi] at xr
    repeat (first | (refine ⟨_, ld1 PA.get rfl, ?_⟩; set_option smartUnfolding false in conv => whnf) | (refine ⟨_, x3, ?_⟩; set_option smartUnfolding false in conv => whnf))
    rw [len_tks]
    refine ⟨_, xr, ?_⟩
    set_option smartUnfolding false in conv => whnf
    have fr1 : Fr h (h.new (.cells (op opR).cells true 0)) [] := (Fr.refl h []).new
    have g1 : (h.new (.cells (op opR).cells true 0)).get h.next = some (.cells (flatCells (ops [opR])) true 0) := get_new_same
    have k1 : Kc h (h.new (.cells (op opR).cells true 0)) col (cadd col h.next 300) PK := Kc.nil fr1 300
    have c1 : cadd col h.next 300 h.next = 300 := cadd_new (Nat.le_refl _)
    have R1 : RA (h.new (.cells (op opR).cells true 0)) (cadd col h.next 300) r st := RM.keep (K := fun _ => False) (Kc.nil fr1 300) (fun _ _ _ h => h) (fun _ _ h => h)
    have P1 : PAt (h.new (.cells (op opR).cells true 0)) (cadd col h.next 300) p r k st.T now o ov := PA.keep (K := fun _ => False) (Kc.nil fr1 300) id id
    generalize cadd col h.next 300 = col1 at *
    refine ⟨_, ld1 (PA.nil fr1).get rfl, ?_⟩
    set_option smartUnfolding false in conv => whnf
    have P2 : ∀ {h' : Heap} {col' : Nat → Nat}, Kc (h.new (.cells (op opR).cells true 0)) h' col1 col' R3K → PAt h' col' p r k st.T now o ov ∧ Kc h h' col col' PK := fun f =>
     ⟨P1.keep f (fun h => by rcases h with ⟨_, h⟩ | h <;> omega) (fun h => by rcases h with ⟨_, h⟩ | h <;> omega), k1.trans (f.wk fun n h => h.imp id fun h => .inr (.inr h))⟩
    have hTn : st.T ≠ [] := by intro e; rw [e] at hT; simp at hT
    refine rmrelS_c (l := [opR]) (B := h.next) R1 (by decide) (Nat.lt_succ_self _) c1 g1 (fun ha => ?_) (fun n j hn hj => ?_) (fun n tk hn ht hj he h' col' R2 f => ?_) (fun n tk g hn ht hj he hg ha h' col' R2 f => ?_) (fun n tk g hn ht hj he hg ha h' col' R2 f => ?_)
    ·exact absurd (by rw [askE, decide_eq_false (by omega), decide_eq_false (by omega)]; rfl) ha
    ·set_option smartUnfolding false in conv => whnf
     exact .inr ⟨rfl, endV_one rfl (q0 h3 hTn _ _ ⟨⟨ov, P1⟩, R1, I⟩ k1)⟩
    ·set_option smartUnfolding false in conv => whnf
     obtain ⟨a, b⟩ := P2 f
     exact .inr ⟨rfl, endV_one rfl (q0 h3 hTn _ _ ⟨⟨ov, a⟩, R2, I⟩ b)⟩
    ·set_option smartUnfolding false in conv => whnf
     obtain ⟨a, b⟩ := P2 f
     exact .inr ⟨rfl, endV_one rfl (q0 h3 hTn _ _ ⟨⟨ov, a⟩, R2, I⟩ b)⟩
    ·set_option smartUnfolding false in conv => whnf
     obtain ⟨a, b⟩ := P2 f
     exact .inr ⟨rfl, endV_one rfl (q1 h3 hTn n tk _ (by rw [← hi]; omega) ht hj h' col' ⟨⟨ov, a⟩, R2, I.rel hj ht rfl rfl rfl (jnew_ok he).2.2.2.2⟩ b)⟩
   ·refine .inl ⟨rfl, ⟨rfl, rfl, trivial⟩, rfl, fun h => ?_⟩
    have : 0 < st.T.length := List.length_pos_iff.2 h.2
    have := of_decide_eq_false hc
    omega
  ·have h3 : ¬ x % 3 = 0 := by intro h; rw [h] at hc; simp at hc
   exact .inl ⟨rfl, ⟨rfl, rfl, trivial⟩, rfl, fun h => h3 h.1⟩
 ·rintro x' e' h' (⟨rfl, he, rfl, hno⟩ | ⟨rfl, hq⟩)
  ·show VC fs ms _ _ _ _ _ _
   refine vc_slots 6 _ he (vc_seq true ?_)
   set_option smartUnfolding false in conv => whnf
   refine ⟨_, ld1 PA.get rfl, ?_⟩
   set_option smartUnfolding false in conv => whnf
   refine eff_o (sto_o PA.get rfl (Nat.le_of_ble_eq_true rfl) rfl) fun h1 e1 => ?_
   set_option smartUnfolding false in conv => whnf
   replace e1 : h1 = h'.set p (.cells [.ptr r 0, .fz k (tks st.T), .int .i64 (IntKind.i64.wrap (now + 1)), ov] true 0) := e1
   rw [IntWalk.i64_in (now + 1) (by omega)] at e1
   have fs1 : Kc h' h1 col col (· = 200) := ⟨by rw [e1]; exact Nat.le_refl _, fun c hc hn => by rw [e1, get_set_ne (by intro e; rw [e, PA.co] at hn; exact hn rfl)], fun _ _ => rfl⟩
   have P1 : PAt h1 col p r k st.T (now + 1) o ov := by
    refine ⟨by rw [e1]; exact PA.lt, PA.co, by rw [e1]; exact get_set_same, ?_⟩
    rcases PA.row with h | ⟨b, a1, a2, a3, a4⟩
    ·exact .inl h
    ·refine .inr ⟨b, a1, by rw [e1]; exact a2, a3, ?_⟩
     rw [e1, get_set_ne (by intro e; rw [e, PA.co] at a3; omega)]
     exact a4
   have RM1 : RA h1 col r st := RM.pk fs1 (fun n h => by omega)
   have I1 := I.tick
   have ks1 : Kc h' h1 col col PK := fs1.wk fun n h => .inr (.inl h)
   clear e1 fs1
   have hL : st.L.length ≤ 900 := by have := I.ln; omega
   have hn4 := I.n4
   refine vc_seqV (VC.mono (Q := fun x' e' g' => x' = .normal ∧ g' = h1 ∧ ((∃ (a : Nat) (R2 : List Nat), AllAt e' [(0, .ptr p 0), (1, .int .i64 x), (5, .int .i64 ((a : Nat) : Int)), (6, .bool true)] ∧ Goes st.T st.j st.L R a R2 ∧ Inv st.T st.j st.L (now + 1) (a :: R2) o) ∨
    (AllAt e' [(0, .ptr p 0), (1, .int .i64 x), (5, .int .i64 0), (6, .bool false)] ∧ ∀ i j, ¬ hasJ st.j i j))) (vpC_sound (z := true) ?_) ?_)
   ·set_option smartUnfolding false in conv => whnf
    repeat (first | (refine ⟨_, ld1 P1.get rfl, ?_⟩; set_option smartUnfolding false in conv => whnf))
    refine rmwho_c RM1 hL (fun i j hj h2 _ => ?_) (fun hno => ?_) (fun _ i j F hg => ?_) (fun _ i j F hg hl => ?_)
    ·rcases I.sec i j hj with h | h <;> omega
    ·set_option smartUnfolding false in conv => whnf
     exact ⟨rfl, rfl, .inr ⟨⟨rfl, rfl, rfl, rfl, trivial⟩, hno⟩⟩
    ·set_option smartUnfolding false in conv => whnf
     obtain ⟨R2, G, I2⟩ := I1.goes_fst F hg
     exact ⟨rfl, rfl, .inl ⟨i, R2, ⟨rfl, rfl, rfl, rfl, trivial⟩, G, I2⟩⟩
    ·obtain ⟨a, R2, ht, G, I2⟩ := I1.goes_top F hl
     rw [ht]
     set_option smartUnfolding false in conv => whnf
     exact ⟨rfl, rfl, .inl ⟨a, R2, ⟨rfl, rfl, rfl, rfl, trivial⟩, G, I2⟩⟩
   ·rintro x' e' g' ⟨rfl, rfl, (⟨a, R2, he, G, I2⟩ | ⟨he, hnoj⟩)⟩
    ·show VC fs ms _ _ _ _ _ _
     obtain ⟨ja, hja⟩ := I2.rj a (by simp)
     have hat := I2.lt hja
     refine vc_slots 6 _ he ?_
     refine vc_seqV (vpC_sound (z := true) ?_)
     set_option smartUnfolding false in conv => whnf
     repeat (first | (refine ⟨_, ld1 P1.get rfl, ?_⟩; set_option smartUnfolding false in conv => whnf))
     rw [len_tks]
     refine brf (decide_eq_false (by omega)) (fun hc => ?_)
     (try rw [hc])
     set_option smartUnfolding false in conv => whnf
     refine vc_seq true ?_
     set_option smartUnfolding false in conv => whnf
     refine ⟨_, quo_nn hx0 (by omega) (show (0 : Int) < 24 by decide), ?_⟩
     set_option smartUnfolding false in conv => whnf
     refine ⟨_, rem_nn (Int.ediv_nonneg hx0 (by decide)) (show (0 : Int) < 4 by decide), ?_⟩
     set_option smartUnfolding false in conv => whnf
     have y0 : 0 ≤ x / 24 % 4 := Int.emod_nonneg _ (by decide)
     have y4 : x / 24 % 4 < 4 := Int.emod_lt_of_pos _ (by decide)
     have z0 : 0 ≤ x / 3 % 8 := Int.emod_nonneg _ (by decide)
     have x30 := quo_nn hx0 (by omega) (show (0 : Int) < 3 by decide)
     have x31 := rem_nn (Int.ediv_nonneg hx0 (show (0 : Int) ≤ 3 by decide)) (show (0 : Int) < 8 by decide)
     generalize x / 24 % 4 = y at *
     generalize x / 3 % 8 = z at *
     refine vc_seqV (vc_seq true ?_)
     set_option smartUnfolding false in conv => whnf
     refine ⟨_, x30, ?_⟩
     set_option smartUnfolding false in conv => whnf
     refine ⟨_, x31, ?_⟩
     set_option smartUnfolding false in conv => whnf
     refine vc_block ?_
     have hq2 : ∀ {g : Heap} {c2 : Nat → Nat} {js' : Js} {L' : List En} {R' o' : List Nat}, Mv st.T st.j st.L R js' L' R' → Pl g c2 p r k { st with j := js', L := L' } (now + 1) R' o' → Kc g' g col c2 PK → Q (.bool true) g :=
      fun m P f => q2 hno _ _ _ _ _ _ m P (ks1.trans f)
     refine vc_seqV (VC.mono (Q := fun x' e' g => x' = .normal ∧ g = g' ∧ ∃ b, AllAt e' [(0, .ptr p 0), (5, .int .i64 ((a : Nat) : Int)), (7, .int .i64 y), (89, .int .i64 z), (118, .bool b)]) (vpC_sound (z := true) ?_) ?_)
     ·set_option smartUnfolding false in conv => whnf
      refine br (fun hc => ?_) (fun hc => ?_) <;> (try rw [hc]) <;> (set_option smartUnfolding false in conv => whnf)
      ·exact ⟨rfl, rfl, _, rfl, rfl, rfl, rfl, rfl, trivial⟩
      ·refine br (fun hc => ?_) (fun hc => ?_) <;> (try rw [hc]) <;> (set_option smartUnfolding false in conv => whnf)
       ·exact ⟨rfl, rfl, _, rfl, rfl, rfl, rfl, rfl, trivial⟩
       ·exact ⟨rfl, rfl, _, rfl, rfl, rfl, rfl, rfl, trivial⟩
     ·rintro x' e' g ⟨rfl, rfl, b, he⟩
      show VC fs ms _ _ _ _ _ _
      have leafE : ∀ g3, Fr g g3 [] → Q (.bool true) g3 := fun g3 fr => hq2 (.inr ⟨a, R2, G, .inl ⟨rfl, JE.refl _, fun x h => .inr h⟩⟩) ⟨⟨ov, P1.nil fr⟩, RM1.nil fr, I2⟩ (Kc.same fr)
      cases b with
      | true =>
       refine vc_slots 7 _ he (vc_condV ?_)
       set_option smartUnfolding false in conv => whnf
       refine vc_seqV (VC.mono (Q := fun x' e' g2 => x' = .normal ∧ Fr g g2 [] ∧ ∃ (u : Int) (tk : Bool), AllAt e' [(0, .ptr p 0), (5, .int .i64 ((a : Nat) : Int)), (7, .int .i64 y), (8, .int .i64 u), (9, .bool tk)] ∧
        (tk = true → ∃ (i : Nat) (j : Jb), u = ((i : Nat) : Int) ∧ hasJ st.j i j ∧ y ∈ heldL st.L i) ∧ (tk = false → ∀ (i : Nat) (j : Jb), i < st.T.length → hasJ st.j i j → y ∉ heldL st.L i)) (vpC_sound (z := true) ?_) ?_)
       ·set_option smartUnfolding false in conv => whnf
        refine pheld_c P1 RM1 (by omega) hn4 (fun hn g2 fr => ?_) (fun i j hi hj hm g2 fr => ?_)
        ·set_option smartUnfolding false in conv => whnf
         exact ⟨rfl, fr, 0, false, ⟨rfl, rfl, rfl, rfl, rfl, trivial⟩, (fun h => by cases h), fun _ => hn⟩
        ·set_option smartUnfolding false in conv => whnf
         exact ⟨rfl, fr, _, true, ⟨rfl, rfl, rfl, rfl, rfl, trivial⟩, fun _ => ⟨i, j, rfl, hj, hm⟩, fun h => by cases h⟩
       ·rintro x' e' g2 ⟨rfl, fr2, u, tk, he, ht1, ht2⟩
        show VC fs ms _ _ _ _ _ _
        have P2 := P1.nil fr2
        have RM2 := RM1.nil fr2
        obtain ⟨t, hta⟩ : ∃ t, st.T[a]? = some t := ⟨_, List.getElem?_eq_getElem hat⟩
        have htk : st.T[a] = t := by rw [List.getElem?_eq_getElem hat] at hta; exact Option.some.inj hta
        have hus : uses st.T a y = decide (t.a / 2 ^ y.toNat % 2 = 1) := uses_in ⟨by omega, by omega, y0, by omega⟩ (by rw [Int.toNat_natCast]; exact hta)
        have hand : (IntKind.i64.wrap ((BitVec.ofInt 64 (t.a / 2 ^ y.toNat) &&& BitVec.ofInt 64 1).toNat : Int) == 1) = uses st.T a y := by rw [and1, hus]; rfl
        cases tk with
        | false =>
         have hnone := ht2 rfl
         refine vc_slots 7 _ he (vpC_sound (z := true) ?_)
         set_option smartUnfolding false in conv => whnf
         repeat (first | (refine ⟨_, ld1 P2.get rfl, ?_⟩; set_option smartUnfolding false in conv => whnf))
         refine rmlock_c RM2 hL (fun hn => (hn (ofE_some hat hja)).elim) (fun i j hi hj hs => ?_) (fun i j hi hj hs hne g3 fr3 => ?_) (fun i j hi hj hs hz g3 c3 R3 f3 => ?_)
         ·rcases I.sec i j hj with h | h <;> omega
         ·have P3 := P2.nil fr3
          set_option smartUnfolding false in conv => whnf
          repeat (first | (refine ⟨_, ld1 P3.get rfl, ?_⟩; set_option smartUnfolding false in conv => whnf))
          refine ⟨_, idx_tk hat, ?_⟩
          set_option smartUnfolding false in conv => whnf
          rw [htk]
          refine ⟨.int .i64 t.a, rfl, ?_⟩
          set_option smartUnfolding false in conv => whnf
          refine ⟨_, bin_shr8 t.a y0 (by omega), ?_⟩
          set_option smartUnfolding false in conv => whnf
          have hlf := leafE g3 (fr2.trans fr3)
          cases hu : uses st.T a y with
          | false =>
           refine brf (hand.trans hu) (fun hc => ?_)
           (try rw [hc])
           set_option smartUnfolding false in conv => whnf
           refine brf (by simpa using hne) (fun hc => ?_)
           (try rw [hc])
           set_option smartUnfolding false in conv => whnf
           exact step_end _ _ hlf
          | true =>
           refine brt (hand.trans hu) (fun hc => ?_)
           (try rw [hc])
           set_option smartUnfolding false in conv => whnf
           refine br (fun hc => ?_) (fun hc => ?_) <;> (try rw [hc]) <;> (set_option smartUnfolding false in conv => whnf)
           ·exfalso
            obtain ⟨x1, hx1, hx2⟩ := lock131 (eq_of_beq hc)
            have hx3 : x1.1 = ((a : Nat) : Int) := I2.free hu (x := y) (by rw [← hx2]; exact hx1)
            refine hnone a ja hat hja (held_mem.2 ?_)
            rw [← hx2, ← hx3]
            exact hx1
           ·refine brf (by simpa using hne) (fun hc => ?_)
            (try rw [hc])
            set_option smartUnfolding false in conv => whnf
            exact step_end _ _ hlf
         ·have hia2 : i = a := by omega
          subst hia2
          have hjj : j = ja := hasJ.eq (js := st.j) hj hja
          subst hjj
          have P3 := P2.rk f3
          have kf3 : Kc g g3 col c3 PK := (Kc.same fr2).trans (f3.wk fun n h => .inl h)
          set_option smartUnfolding false in conv => whnf
          repeat (first | (refine ⟨_, ld1 P3.get rfl, ?_⟩; set_option smartUnfolding false in conv => whnf))
          refine ⟨_, idx_tk hat, ?_⟩
          set_option smartUnfolding false in conv => whnf
          rw [htk]
          refine ⟨.int .i64 t.a, rfl, ?_⟩
          set_option smartUnfolding false in conv => whnf
          refine ⟨_, bin_shr8 t.a y0 (by omega), ?_⟩
          set_option smartUnfolding false in conv => whnf
          have hu := lock0 hz
          refine brt (hand.trans hu) (fun hc => ?_)
          (try rw [hc])
          set_option smartUnfolding false in conv => whnf
          repeat (first | (refine ⟨_, ld1 P3.get rfl, ?_⟩; set_option smartUnfolding false in conv => whnf))
          refine rheld_any R3 (by rw [List.length_append]; exact Nat.le_trans (Nat.add_le_add_right hL 1) (by decide)) hat fun g4 v4 l4 hr4 fr4 _ hl4 he4 => ?_
          have el4 : l4 = heldL (st.L ++ [(((i : Nat) : Int), y)]) i := he4 (jLk j) (hasJ_set.2 (.inl ⟨rfl, (List.getElem?_eq_some_iff.1 hja).1, rfl⟩))
          have hlen : ((l4.length : Nat) : Int) = 1 ↔ heldL st.L i = [] := by
           rw [el4, held_app, held_all (L := [(((i : Nat) : Int), y)]) (by simp), List.length_append]
           constructor
           ·intro h
            simp at h
            exact List.length_eq_zero_iff.1 (by omega)
           ·intro h
            rw [h]; rfl
          have I3 := I2.job (j' := jLk j) hja (by rw [jLk]; split <;> rfl) (by rw [jLk]; split <;> rfl) (by rw [jLk]; split; exact .inr rfl; exact I.sec i j hja) (fun _ => by simp) (I2.sk.lock y) (by rw [List.length_append]; have := I.ln; simp; omega)
          have M3 : Mv st.T st.j st.L R (st.j.set i (some (jLk j))) (st.L ++ [(((i : Nat) : Int), y)]) (i :: R2) := .inr ⟨i, R2, G, .inl ⟨rfl, JE.set hja (by rw [jLk]; split <;> rfl), fun x hx => by
           rcases List.mem_append.1 hx with h | h
           ·exact .inr h
           ·rw [List.mem_singleton.1 h]; exact .inl rfl⟩⟩
          have P4 := P3.nil fr4
          have R4 := R3.nil fr4
          set_option smartUnfolding false in conv => whnf
          refine opt_go hr4.read.1 ?_
          set_option smartUnfolding false in conv => whnf
          refine br (fun hc => ?_) (fun hc => ?_) <;> (try rw [hc]) <;> (set_option smartUnfolding false in conv => whnf)
          ·rw [if_pos (hlen.1 (eq_of_beq hc))] at I3
           repeat (first | (refine ⟨_, ld1 P4.get rfl, ?_⟩; set_option smartUnfolding false in conv => whnf))
           have hol : o.length ≤ 1000 := Nat.le_trans I2.olen (by decide)
           obtain ⟨v', g5, b1, b2, b3, b4, b5⟩ := P4.push hol i
           refine ⟨_, _, b1, ?_⟩
           set_option smartUnfolding false in conv => whnf
           refine eff_o (sto_o (o := 0 + 3) (n := 1) b4 (by rw [b2]; rfl) (Nat.le_of_ble_eq_true rfl) (by rw [b2]; show cond v'.flat _ _ = _; rw [b3]; rfl)) fun g6 e6 => ?_
           rw [b2] at e6
           obtain ⟨P6, f6⟩ := b5 g6 e6
           set_option smartUnfolding false in conv => whnf
           exact step_end _ _ (hq2 M3 ⟨⟨v', P6⟩, R4.pk f6 (fun n h => by omega), I3⟩ (kf3.trans ((Kc.same fr4).trans (f6.wk fun n h => .inr (h.imp id .inl)))))
          ·rw [if_neg (fun h => by rw [hlen.2 h] at hc; simp at hc)] at I3
           exact step_end _ _ (hq2 M3 ⟨⟨ov, P4⟩, R4, I3⟩ (kf3.trans (Kc.same fr4)))
        | true =>
         obtain ⟨i0, j0, rfl, hi0, hm0⟩ := ht1 rfl
         refine vc_slots 7 _ he (vpC_sound (z := true) ?_)
         set_option smartUnfolding false in conv => whnf
         repeat (first | (refine ⟨_, ld1 P2.get rfl, ?_⟩; set_option smartUnfolding false in conv => whnf))
         refine rmlock_c RM2 hL (fun hn => (hn (ofE_some hat hja)).elim) (fun i j hi hj hs => ?_) (fun i j hi hj hs hne g3 fr3 => ?_) (fun i j hi hj hs hz g3 c3 R3 f3 => ?_)
         ·rcases I.sec i j hj with h | h <;> omega
         ·have P3 := P2.nil fr3
          set_option smartUnfolding false in conv => whnf
          repeat (first | (refine ⟨_, ld1 P3.get rfl, ?_⟩; set_option smartUnfolding false in conv => whnf))
          refine ⟨_, idx_tk hat, ?_⟩
          set_option smartUnfolding false in conv => whnf
          rw [htk]
          refine ⟨.int .i64 t.a, rfl, ?_⟩
          set_option smartUnfolding false in conv => whnf
          refine ⟨_, bin_shr8 t.a y0 (by omega), ?_⟩
          set_option smartUnfolding false in conv => whnf
          have hlf := leafE g3 (fr2.trans fr3)
          cases hu : uses st.T a y with
          | false =>
           refine brf (hand.trans hu) (fun hc => ?_)
           (try rw [hc])
           set_option smartUnfolding false in conv => whnf
           refine brf (by simpa using hne) (fun hc => ?_)
           (try rw [hc])
           set_option smartUnfolding false in conv => whnf
           exact step_end _ _ hlf
          | true =>
           refine brt (hand.trans hu) (fun hc => ?_)
           (try rw [hc])
           set_option smartUnfolding false in conv => whnf
           have hia : ((i0 : Nat) : Int) = ((a : Nat) : Int) := I2.free hu (held_mem.1 hm0)
           refine br (fun hc => ?_) (fun hc => ?_) <;> (try rw [hc]) <;> (set_option smartUnfolding false in conv => whnf)
           ·refine brf (by rw [hia]; simp) (fun hc => ?_)
            (try rw [hc])
            set_option smartUnfolding false in conv => whnf
            refine brf (by rw [hia]; simp) (fun hc => ?_)
            (try rw [hc])
            set_option smartUnfolding false in conv => whnf
            refine brf (by simpa using hne) (fun hc => ?_)
            (try rw [hc])
            set_option smartUnfolding false in conv => whnf
            exact step_end _ _ hlf
           ·refine brf (by rw [hia]; simp) (fun hc => ?_)
            (try rw [hc])
            set_option smartUnfolding false in conv => whnf
            refine brf (by simpa using hne) (fun hc => ?_)
            (try rw [hc])
            set_option smartUnfolding false in conv => whnf
            exact step_end _ _ hlf
         ·have hia2 : i = a := by omega
          subst hia2
          have hjj : j = ja := hasJ.eq (js := st.j) hj hja
          subst hjj
          have P3 := P2.rk f3
          have kf3 : Kc g g3 col c3 PK := (Kc.same fr2).trans (f3.wk fun n h => .inl h)
          set_option smartUnfolding false in conv => whnf
          repeat (first | (refine ⟨_, ld1 P3.get rfl, ?_⟩; set_option smartUnfolding false in conv => whnf))
          refine ⟨_, idx_tk hat, ?_⟩
          set_option smartUnfolding false in conv => whnf
          rw [htk]
          refine ⟨.int .i64 t.a, rfl, ?_⟩
          set_option smartUnfolding false in conv => whnf
          refine ⟨_, bin_shr8 t.a y0 (by omega), ?_⟩
          set_option smartUnfolding false in conv => whnf
          have hu := lock0 hz
          have hia : ((i0 : Nat) : Int) = ((i : Nat) : Int) := I2.free hu (held_mem.1 hm0)
          refine brt (hand.trans hu) (fun hc => ?_)
          (try rw [hc])
          set_option smartUnfolding false in conv => whnf
          refine brf (by rw [hia]; simp) (fun hc => ?_)
          (try rw [hc])
          set_option smartUnfolding false in conv => whnf
          repeat (first | (refine ⟨_, ld1 P3.get rfl, ?_⟩; set_option smartUnfolding false in conv => whnf))
          refine rheld_any R3 (by rw [List.length_append]; exact Nat.le_trans (Nat.add_le_add_right hL 1) (by decide)) hat fun g4 v4 l4 hr4 fr4 _ hl4 he4 => ?_
          have el4 : l4 = heldL (st.L ++ [(((i : Nat) : Int), y)]) i := he4 (jLk j) (hasJ_set.2 (.inl ⟨rfl, (List.getElem?_eq_some_iff.1 hja).1, rfl⟩))
          have hlen : ((l4.length : Nat) : Int) = 1 ↔ heldL st.L i = [] := by
           rw [el4, held_app, held_all (L := [(((i : Nat) : Int), y)]) (by simp), List.length_append]
           constructor
           ·intro h
            simp at h
            exact List.length_eq_zero_iff.1 (by omega)
           ·intro h
            rw [h]; rfl
          have I3 := I2.job (j' := jLk j) hja (by rw [jLk]; split <;> rfl) (by rw [jLk]; split <;> rfl) (by rw [jLk]; split; exact .inr rfl; exact I.sec i j hja) (fun _ => by simp) (I2.sk.lock y) (by rw [List.length_append]; have := I.ln; simp; omega)
          have M3 : Mv st.T st.j st.L R (st.j.set i (some (jLk j))) (st.L ++ [(((i : Nat) : Int), y)]) (i :: R2) := .inr ⟨i, R2, G, .inl ⟨rfl, JE.set hja (by rw [jLk]; split <;> rfl), fun x hx => by
           rcases List.mem_append.1 hx with h | h
           ·exact .inr h
           ·rw [List.mem_singleton.1 h]; exact .inl rfl⟩⟩
          have P4 := P3.nil fr4
          have R4 := R3.nil fr4
          set_option smartUnfolding false in conv => whnf
          refine opt_go hr4.read.1 ?_
          set_option smartUnfolding false in conv => whnf
          refine br (fun hc => ?_) (fun hc => ?_) <;> (try rw [hc]) <;> (set_option smartUnfolding false in conv => whnf)
          ·rw [if_pos (hlen.1 (eq_of_beq hc))] at I3
           repeat (first | (refine ⟨_, ld1 P4.get rfl, ?_⟩; set_option smartUnfolding false in conv => whnf))
           have hol : o.length ≤ 1000 := Nat.le_trans I2.olen (by decide)
           obtain ⟨v', g5, b1, b2, b3, b4, b5⟩ := P4.push hol i
           refine ⟨_, _, b1, ?_⟩
           set_option smartUnfolding false in conv => whnf
           refine eff_o (sto_o (o := 0 + 3) (n := 1) b4 (by rw [b2]; rfl) (Nat.le_of_ble_eq_true rfl) (by rw [b2]; show cond v'.flat _ _ = _; rw [b3]; rfl)) fun g6 e6 => ?_
           rw [b2] at e6
           obtain ⟨P6, f6⟩ := b5 g6 e6
           set_option smartUnfolding false in conv => whnf
           exact step_end _ _ (hq2 M3 ⟨⟨v', P6⟩, R4.pk f6 (fun n h => by omega), I3⟩ (kf3.trans ((Kc.same fr4).trans (f6.wk fun n h => .inr (h.imp id .inl)))))
          ·rw [if_neg (fun h => by rw [hlen.2 h] at hc; simp at hc)] at I3
           exact step_end _ _ (hq2 M3 ⟨⟨ov, P4⟩, R4, I3⟩ (kf3.trans (Kc.same fr4)))
      | false =>
       refine vc_slots 7 _ he (vpC_sound (z := true) ?_)
       set_option smartUnfolding false in conv => whnf
       refine br (fun hc => ?_) (fun hc => ?_) <;> (try rw [hc]) <;> (set_option smartUnfolding false in conv => whnf)
       ·repeat (first | (refine ⟨_, ld1 P1.get rfl, ?_⟩; set_option smartUnfolding false in conv => whnf))
        refine rmunlock_c RM1 hL (fun hn => (hn (ofE_some hat hja)).elim) (fun i j hi hj hne g3 fr3 => ?_) (fun i j hi hj hz n hn hla g3 c3 R3 f3 => ?_)
        ·set_option smartUnfolding false in conv => whnf
         refine brf (by simpa using hne) (fun hc => ?_)
         (try rw [hc])
         set_option smartUnfolding false in conv => whnf
         exact step_end _ _ (leafE g3 fr3)
        ·have hia2 : i = a := by omega
         subst hia2
         have hjj : j = ja := hasJ.eq (js := st.j) hj hja
         subst hjj
         have P3 := P1.rk f3
         have kf3 : Kc g g3 col c3 PK := f3.wk fun n h => .inl h
         have ee : ∀ L, (jUnl L ((i : Nat) : Int) j).e = j.e ∧ (jUnl L ((i : Nat) : Int) j).t = j.t ∧ ((jUnl L ((i : Nat) : Int) j).s = 0 ∨ (jUnl L ((i : Nat) : Int) j).s = 1) := by
          intro L
          have h0 := I.sec i j hja
          rw [jUnl]
          split
          ·rw [jLea]
           split
           ·exact ⟨rfl, rfl, h0⟩
           ·exact ⟨rfl, rfl, .inl rfl⟩
          ·exact ⟨rfl, rfl, h0⟩
         have I3 := I2.job (j' := jUnl (st.L.eraseIdx n) ((i : Nat) : Int) j) hja (ee _).1 (ee _).2.1 (ee _).2.2 (fun _ => by simp) (I2.sk.unl hn hla) (by rw [List.length_eraseIdx]; have := I.ln; split <;> omega)
         have M3 : Mv st.T st.j st.L R (st.j.set i (some (jUnl (st.L.eraseIdx n) ((i : Nat) : Int) j))) (st.L.eraseIdx n) (i :: R2) := .inr ⟨i, R2, G, .inl ⟨rfl, JE.set hja (ee _).1, fun x hx => .inr (List.eraseIdx_subset hx)⟩⟩
         set_option smartUnfolding false in conv => whnf
         repeat (first | (refine ⟨_, ld1 P3.get rfl, ?_⟩; set_option smartUnfolding false in conv => whnf))
         refine rheld_any R3 (by show (st.L.eraseIdx n).length ≤ 1000; rw [List.length_eraseIdx]; split <;> omega) hat fun g4 v4 l4 hr4 fr4 _ hl4 he4 => ?_
         have el4 : l4 = heldL (st.L.eraseIdx n) i := he4 _ (hasJ_set.2 (.inl ⟨rfl, (List.getElem?_eq_some_iff.1 hja).1, rfl⟩))
         have P4 := P3.nil fr4
         have R4 := R3.nil fr4
         have hol : o.length ≤ 1000 := Nat.le_trans I2.olen (by decide)
         set_option smartUnfolding false in conv => whnf
         refine opt_go hr4.read.1 ?_
         set_option smartUnfolding false in conv => whnf
         refine br (fun hc => ?_) (fun hc => ?_) <;> (try rw [hc]) <;> (set_option smartUnfolding false in conv => whnf)
         ·have hz : heldL (st.L.eraseIdx n) i = [] := by
           rw [← el4]
           have := eq_of_beq hc
           exact List.length_eq_zero_iff.1 (by omega)
          rw [if_pos hz] at I3
          refine gone_c P4 hol fun g5 c5 v5 w5 P5 f5 => ?_
          set_option smartUnfolding false in conv => whnf
          exact step_end _ _ (hq2 M3 ⟨⟨v5, P5⟩, R4.pk f5 (fun n h => by omega), I3⟩ (kf3.trans ((Kc.same fr4).trans (f5.wk fun n h => .inr (.inl h)))))
         ·have hz : heldL (st.L.eraseIdx n) i ≠ [] := by
           intro h
           rw [el4, h] at hc
           simp at hc
          rw [if_neg hz] at I3
          exact step_end _ _ (hq2 M3 ⟨⟨ov, P4⟩, R4, I3⟩ (kf3.trans (Kc.same fr4)))
       ·refine br (fun hc => ?_) (fun hc => ?_) <;> (try rw [hc]) <;> (set_option smartUnfolding false in conv => whnf)
        ·have hol : o.length ≤ 1000 := Nat.le_trans I2.olen (by decide)
         refine gone_c P1 hol fun g3 c3 v3 w3 P3 f3 => ?_
         have R3 := RM1.pk f3 (fun n h => by omega)
         set_option smartUnfolding false in conv => whnf
         repeat (first | (refine ⟨_, ld1 P3.get rfl, ?_⟩; set_option smartUnfolding false in conv => whnf))
         refine rmend_c R3 hL (fun hn => (hn (ofE_some hat hja)).elim) (fun i j hi hj g4 c4 R4 f4 => ?_)
         have hia2 : i = a := by omega
         subst hia2
         set_option smartUnfolding false in conv => whnf
         exact hq2 (.inr ⟨i, R2, G, .inr ⟨rfl, rfl, rfl⟩⟩) ⟨⟨v3, P3.rk f4⟩, R4, I2.end'⟩ ((f3.wk fun n h => .inr (.inl h)).trans (f4.wk fun n h => .inl h))
        ·repeat (first | (refine ⟨_, ld1 P1.get rfl, ?_⟩; set_option smartUnfolding false in conv => whnf))
         refine rmrun_c RM1 (fun hn => (hn (ofE_some hat hja)).elim) (fun i j hi hj g3 c3 R3 f3 => ?_)
         have hia2 : i = a := by omega
         subst hia2
         have hjj : j = ja := hasJ.eq (js := st.j) hj hja
         subst hjj
         have P3 := P1.rk f3
         have kf3 : Kc g g3 col c3 PK := f3.wk fun n h => .inl h
         have er : (jRun j).e = j.e ∧ (jRun j).t = j.t ∧ (jRun j).s = j.s := by
          rw [jRun]
          split <;> exact ⟨rfl, rfl, rfl⟩
         have I3 := I2.job (j' := jRun j) hja er.1 er.2.1 (by rw [er.2.2]; exact I.sec i j hja) (fun _ => by simp) I2.sk I2.ln
         have M3 : Mv st.T st.j st.L R (st.j.set i (some (jRun j))) st.L (i :: R2) := .inr ⟨i, R2, G, .inl ⟨rfl, JE.set hja er.1, fun x hx => .inr hx⟩⟩
         have hja3 : hasJ (st.j.set i (some (jRun j))) i (jRun j) := hasJ_set.2 (.inl ⟨rfl, (List.getElem?_eq_some_iff.1 hja).1, rfl⟩)
         have fin : ∀ g4, Fr g3 g4 [] → Q (.bool true) g4 := fun g4 fr4 => hq2 M3 ⟨⟨ov, P3.nil fr4⟩, R3.nil fr4, I3⟩ (kf3.trans (Kc.same fr4))
         set_option smartUnfolding false in conv => whnf
         refine br (fun hc => ?_) (fun hc => ?_) <;> (try rw [hc]) <;> (set_option smartUnfolding false in conv => whnf)
         ·exact fin _ (Fr.refl _ _)
         ·have hne : jRunE j ≠ 0 := by intro h; rw [h] at hc; simp at hc
          have hrow : rowR (jRun j).l = false := by
           have h1 : jRun j = j := by rw [jRun, if_neg (by simpa using hne)]
           rw [h1]
           cases hr : rowR j.l with
           | false => rfl
           | true =>
            exfalso
            apply hne
            rw [jRunE, hr]
            rcases I.sec i j hja with h | h <;> rw [h] <;> rfl
          repeat (first | (refine ⟨_, ld1 P3.get rfl, ?_⟩; set_option smartUnfolding false in conv => whnf))
          refine rfault_c R3 (fun hn => (hn (ofE_some hat hja3)).elim) (fun i2 j2 hi2 hj2 g4 fr4 => ?_)
          set_option smartUnfolding false in conv => whnf
          refine br (fun hc => ?_) (fun hc => ?_) <;> (try rw [hc]) <;> (set_option smartUnfolding false in conv => whnf)
          ·exact fin _ fr4
          ·repeat (first | (refine ⟨_, ld1 (P3.nil fr4).get rfl, ?_⟩; set_option smartUnfolding false in conv => whnf))
           refine norun_c (R3.nil fr4) hja3 hat fun g5 fr5 => ?_
           rw [hrow]
           set_option smartUnfolding false in conv => whnf
           exact fin _ (fr4.trans fr5)
    ·show VC fs ms _ _ _ _ _ _
     refine vc_slots 6 _ he ?_
     refine vc_seqV (vpC_sound (z := true) ?_)
     set_option smartUnfolding false in conv => whnf
     repeat (first | (refine ⟨_, ld1 P1.get rfl, ?_⟩; set_option smartUnfolding false in conv => whnf))
     refine rjobs_c RM1 fun g3 v3 M hr hm _ _ fr3 => ?_
     have hM : idl M = [] := by
      cases M with
      | nil => rfl
      | cons y M =>
       obtain ⟨j, hj, _⟩ := (hm y).1 (by simp)
       exact (hnoj _ _ hj).elim
     rw [hM] at hr
     set_option smartUnfolding false in conv => whnf
     refine opt_go hr.read.1 ?_
     set_option smartUnfolding false in conv => whnf
     exact q2 hno _ _ _ _ _ _ (.inl ⟨rfl, rfl, rfl⟩) ⟨⟨ov, P1.nil fr3⟩, RM1.nil fr3, I1⟩ (ks1.trans (Kc.same fr3))
  ·exact hq
end
theorem mk_ok (t : Tk) : taskOk (mkT t) = true := by
 have bp := bring_in (i := t.p) (n := 64) (by decide)
 have kp : 0 < mkP t ∧ mkP t ≤ 64 := ⟨by show 0 < 1 + bring t.p 64; omega, by show 1 + bring t.p 64 ≤ 64; omega⟩
 have bd := bring_in (i := t.d) kp.1
 have kd : 0 < mkD t ∧ mkD t ≤ mkP t := ⟨by show 0 < 1 + bring t.d (mkP t); omega, by show 1 + bring t.d (mkP t) ≤ mkP t; omega⟩
 have bw := bring_in (i := t.w) kd.1
 have kw : 0 < mkW t ∧ mkW t ≤ mkD t := ⟨by show 0 < 1 + bring t.w (mkD t); omega, by show 1 + bring t.w (mkD t) ≤ mkD t; omega⟩
 have : 1 ≤ mkW t ∧ mkW t ≤ mkD t ∧ mkD t ≤ mkP t ∧ mkP t ≤ 64 := ⟨by omega, kw.2, kd.2, kp.2⟩
 simpa [taskOk, mkT] using this
theorem made_ok (l : List Tk) : tasksOk (madeT l) = true := by
 rw [tasksOk, Bool.and_eq_true, decide_eq_true_eq, List.all_eq_true]
 refine ⟨fun t ht => ?_, madeT_4 l⟩
 obtain ⟨u, _, rfl⟩ := List.mem_map.1 ht
 exact mk_ok u
theorem made_chk (l : List Tk) : demCheck (madeT l) (List.replicate (madeT l).length 0) = 0 := by
 rw [demCheck, if_pos]
 refine ⟨?_, made_ok l, List.length_replicate⟩
 rw [List.any_eq_false]
 intro x hx
 rw [List.eq_of_mem_replicate hx]
 decide
section
variable {h h' h0 : Heap} {col col' : Nat → Nat} {p r k : Nat} {now : Int} {R o : List Nat} {st : St}
theorem free_in {B kh : Nat} {J : Int} {how : List Int} {Q : AX → Env → Heap → Prop} (P : Pl h col p r k st now R o) (hQ : ∀ e, AllAt e [(1, .fz kh (ints how)), (6, .ptr r 0), (8, .ptr p 0), (9, .int .i64 J)] → Q (.exit 2) e h) :
  ∀ (m n : Nat) (env : Env), o.length - n = m → 1 ≤ n → AllAt env [(1, .fz kh (ints how)), (6, .ptr r 0), (8, .ptr p 0), (9, .int .i64 J), (10, .int .i64 ((n : Nat) : Int))] →
   VC fs ms B false (.loop L_escapementlaw18_RoomFree_1) env h Q := by
 obtain ⟨⟨ov, PA⟩, RM, I⟩ := P
 have hol := I.olen
 intro m
 induction m using Nat.strongRecOn with
 | ind m ih =>
 intro n env hm hn henv
 refine vc_slots 4 _ henv ?_
 refine vc_loop (z := true) ?_
 set_option smartUnfolding false in conv => whnf
 repeat (first | (refine ⟨_, ld1 PA.get rfl, ?_⟩; set_option smartUnfolding false in conv => whnf))
 refine opt_go PA.len ?_
 set_option smartUnfolding false in conv => whnf
 refine br (fun hc => ?_) (fun hc => ?_) <;> (try rw [hc]) <;> (set_option smartUnfolding false in conv => whnf)
 ·have hlt : n < o.length := by have := of_decide_eq_true hc; omega
  have hlt1 : n - 1 < o.length := by omega
  have en : IntKind.i64.wrap (((n : Nat) : Int) - 1) = ((n - 1 : Nat) : Int) := by rw [IntWalk.i64_in _ (by omega)]; omega
  obtain ⟨b0, a1, a2⟩ := PA.at hlt1
  obtain ⟨b1, a3, a4⟩ := PA.at hlt
  rw [← en] at a1
  obtain ⟨j0, hj0⟩ := I.rj _ (I.sk.omem _ (List.getElem_mem hlt1))
  obtain ⟨j1, hj1⟩ := I.rj _ (I.sk.omem _ (List.getElem_mem hlt))
  have hord : ah (o[n], j1.e) (o[n - 1], j0.e) = true := (List.pairwise_iff_getElem.1 I.sk.ord (n - 1) n hlt1 hlt (by omega)) j1 j0 hj1 hj0
  have hle : ¬ j1.e > j0.e := by
   rw [ah_iff] at hord
   simp only at hord
   omega
  repeat (first | (refine ⟨_, ld1 PA.get rfl, ?_⟩; set_option smartUnfolding false in conv => whnf))
  refine ⟨_, a1, ?_⟩
  set_option smartUnfolding false in conv => whnf
  refine ⟨_, a2, ?_⟩
  set_option smartUnfolding false in conv => whnf
  refine rdead_c RM (fun h => (h (ofE_some (I.lt hj0) hj0)).elim) (fun i2 j2 hi2 hj2 => ?_)
  have e2 : i2 = o[n - 1] := by omega
  subst e2
  have e2 : j2 = j0 := hasJ.eq (js := st.j) hj2 hj0
  subst e2
  set_option smartUnfolding false in conv => whnf
  repeat (first | (refine ⟨_, ld1 PA.get rfl, ?_⟩; set_option smartUnfolding false in conv => whnf))
  refine ⟨_, a3, ?_⟩
  set_option smartUnfolding false in conv => whnf
  refine ⟨_, a4, ?_⟩
  set_option smartUnfolding false in conv => whnf
  refine rdead_c RM (fun h => (h (ofE_some (I.lt hj1) hj1)).elim) (fun i3 j3 hi3 hj3 => ?_)
  have e3 : i3 = o[n] := by omega
  subst e3
  have e3 : j3 = j1 := hasJ.eq (js := st.j) hj3 hj1
  subst e3
  set_option smartUnfolding false in conv => whnf
  refine brf (decide_eq_false hle) (fun hc => ?_)
  (try rw [hc])
  set_option smartUnfolding false in conv => whnf
  exact ih (o.length - (n + 1)) (by omega) (n + 1) _ rfl (by omega) ⟨rfl, rfl, rfl, rfl, inc_slot (by omega), trivial⟩
 ·exact hQ _ ⟨rfl, rfl, rfl, rfl, trivial⟩
theorem step_any {x : Int} (hx0 : 0 ≤ x) (hx : x < 9600) (P : Pl h col p r k st now R o) (hk : k = 3 → st.T = []) (hn0 : 0 ≤ now) (hn : now ≤ 500) :
  VD fs ms f_escapementlaw18_play_step [.ptr p 0, .int .i64 x] h (fun v g => v = .bool true ∧ ∃ col1 st1 now1 R1 o1, Pl g col1 p r k st1 now1 R1 o1 ∧ st1.T = st.T ∧ 0 ≤ now1 ∧ now1 ≤ now + 1) :=
 step_c hx0 hx P hk hn0 hn (fun _ _ h' col' P' _ => ⟨rfl, _, _, _, _, _, P', rfl, hn0, by omega⟩) (fun _ _ i tk g _ _ _ h' col' P' _ => ⟨rfl, _, _, _, _, _, P', rfl, hn0, by omega⟩)
  (fun _ h' col' js' L' R' o' _ P' _ => ⟨rfl, _, _, _, _, _, P', rfl, by omega, Int.le_refl _⟩)
theorem free_l {B kh : Nat} {how : List Int} {T : List Tk} {Q : AX → Env → Heap → Prop} (hk : k = 3 → T = []) (hhow : how.length < 2 ^ 62) (hQ : ∀ e g, Q (.exit 0) e g) :
  ∀ (m i : Nat) (J : Int) (h : Heap) (col : Nat → Nat) (st : St) (now : Int) (R o : List Nat) (env : Env), 150 - i = m → i ≤ 150 → J = ((i : Nat) : Int) → Pl h col p r k st now R o → st.T = T → 0 ≤ now → now ≤ i →
   AllAt env [(1, .fz kh (ints how)), (6, .ptr r 0), (8, .ptr p 0), (9, .int .i64 J)] → VC fs ms B false (.loop L_escapementlaw18_RoomFree_0) env h Q := by
 intro m
 induction m using Nat.strongRecOn with
 | ind m ih =>
 intro i J h col st now R o env hm hi hJ P hT hn0 hn henv
 refine vc_slots 4 _ henv ?_
 have hct : decide (J < (((ints how).length : Nat) : Int)) = decide (i < how.length) := by rw [len_ints, hJ]; simp
 refine vc_loopV (vc_seqV (vpC_sound (z := true) ?_))
 cases c : decide (i < how.length) with
 | false =>
  rw [c] at hct
  set_option smartUnfolding false in conv => whnf
  refine brf (hct) (fun hc => ?_)
  (try rw [hc])
  set_option smartUnfolding false in conv => whnf
  exact hQ _ _
 | true =>
  rw [c] at hct
  have hlt : i < how.length := of_decide_eq_true c
  set_option smartUnfolding false in conv => whnf
  refine brt (hct) (fun hc => ?_)
  (try rw [hc])
  set_option smartUnfolding false in conv => whnf
  refine br (fun hc => ?_) (fun hc => ?_) <;> (try rw [hc]) <;> (set_option smartUnfolding false in conv => whnf)
  ·have hi4 : i < 150 := by have := of_decide_eq_true hc; omega
   have hw : some (AV.int .i64 (IntKind.i64.wrap (J + 1))) = some (AV.int .i64 (J + 1)) := by rw [IntWalk.i64_in _ (by omega)]
   have hb := bring_in (i := how[i]) (n := 9600) (by decide)
   refine vc_seqV (vc_block (vc_seqV (vpC_sound (z := true) ?_)))
   set_option smartUnfolding false in conv => whnf
   refine ⟨_, by rw [hJ]; exact idx_int hlt, ?_⟩
   set_option smartUnfolding false in conv => whnf
   refine ⟨.int .i64 how[i], rfl, ?_⟩
   set_option smartUnfolding false in conv => whnf
   refine vd_pure (bring_c how[i] 9600 (by decide) (by decide)) ?_
   set_option smartUnfolding false in conv => whnf
   refine VD.mono (step_any hb.1 hb.2 P (by rw [hT]; exact hk) hn0 (by omega)) ?_
   rintro v g ⟨rfl, col1, st1, now1, R1, o1, P1, hT1, h10, h11⟩
   set_option smartUnfolding false in conv => whnf
   refine vc_seq true ?_
   set_option smartUnfolding false in conv => whnf
   refine vc_block ?_
   refine free_in (kh := kh) (how := how) (J := J) P1 (fun e he => ?_) (o1.length - 1) 1 _ rfl (Nat.le_refl _) ⟨rfl, rfl, rfl, rfl, rfl, trivial⟩
   show VC fs ms _ _ _ _ _ _
   refine vc_slots 4 _ he (vpC_sound (z := true) ?_)
   set_option smartUnfolding false in conv => whnf
   exact ih (150 - (i + 1)) (by omega) (i + 1) (J + 1) g col1 st1 now1 R1 o1 _ rfl (by omega) (by omega) P1 (hT1.trans hT) h10 (by omega) ⟨rfl, rfl, rfl, hw, trivial⟩
  ·exact hQ _ _
theorem inv_new {T : List Tk} (hT : T.length ≤ 4) : Inv T (List.replicate T.length none) [] 0 [] [] := by
 have no : ∀ i j, ¬ hasJ (List.replicate T.length none) i j := fun i j h => by
  rw [hasJ, List.getElem?_replicate] at h
  split at h <;> cases h
 exact ⟨hT, List.length_replicate, fun i j h => (no i j h).elim, fun i j h => (no i j h).elim, fun i j h => (no i j h).elim, fun a h => by simp at h, fun i j h => (no i j h).elim, fun f j a ja h => (no f j h).elim, ⟨rfl, rfl⟩, Int.le_refl _⟩
theorem pl_new {T : List Tk} (RM : RA h col r st) : RA (h.new (.cells [.ptr r 0, .fz k (tks T), .int .i64 0, .nils] true 0)) (cadd col h.next 200) r st ∧ PAt (h.new (.cells [.ptr r 0, .fz k (tks T), .int .i64 0, .nils] true 0)) (cadd col h.next 200) h.next r k T 0 [] .nils :=
 ⟨RM.keep (K := fun _ => False) (Kc.nil ((Fr.refl h []).new) 200) (fun _ _ _ h => h) (fun _ _ h => h), ⟨Nat.lt_succ_self _, cadd_new (Nat.le_refl _), get_new_same, .inl ⟨rfl, rfl⟩⟩⟩
theorem roomFree_c (kl kh : Nat) (l : List Tk) (how : List Int) (hl : l.length < 2 ^ 62) (hh : how.length < 2 ^ 62) : PC fs ms f_escapementlaw18_RoomFree [.fz kl (tks l), .fz kh (ints how)] (.bool true) := by
 refine pc_of (by simp [clL, AV.cl, cl_tks, cl_ints]) rfl ?_
 refine vd_begin (af := C_escapementlaw18_RoomFree) rfl (Nat.le_of_ble_eq_true rfl) ?_
 generalize hQ : (fun (v : AV) (_ : Heap) => v = .bool true) = Q
 have hT := madeT_4 l
 have hk3 : growK (tks (madeT l)).length = 3 → madeT l = [] := grow3
 have hchk := made_chk l
 have hmk := made_c kl l hl
 generalize growK (tks (madeT l)).length = k at *
 generalize madeT l = T at *
 set_option smartUnfolding false in conv => whnf
 refine vc_seq true ?_
 set_option smartUnfolding false in conv => whnf
 refine vc_seqV (vpC_sound (z := true) ?_)
 set_option smartUnfolding false in conv => whnf
 refine vd_pure works18_c ?_
 set_option smartUnfolding false in conv => whnf
 refine vc_seq true ?_
 set_option smartUnfolding false in conv => whnf
 refine vd_pure hmk ?_
 set_option smartUnfolding false in conv => whnf
 refine vc_seq true ?_
 set_option smartUnfolding false in conv => whnf
 refine rmnew_c (col := fun _ => 0) k T hk3 (by omega) (fun hn => (hn hchk).elim) (fun hok h1 col1 r RM f1 => ?_)
 set_option smartUnfolding false in conv => whnf
 refine vc_seqV (vpC_sound (z := true) ?_)
 set_option smartUnfolding false in conv => whnf
 rw [len_tks]
 refine ⟨_, _, mk_ints (by omega), ?_⟩
 set_option smartUnfolding false in conv => whnf
 have fr2 : Fr h1 (h1.new (.cells (ints (List.replicate T.length 0)) true 0)) [] := (Fr.refl h1 []).new
 have g2 : (h1.new (.cells (ints (List.replicate T.length 0)) true 0)).get h1.next = some (.cells (flatCells (ints (List.replicate T.length 0)) ++ []) true 0) := by rw [flat_ints, List.append_nil]; exact get_new_same
 refine vd_view (check_c k 0 T (List.replicate T.length 0) (by omega) (by rw [List.length_replicate]; omega)) rfl (.cons (.clean (by simp [AV.cl, cl_tks])) (.cons (frz_pre trivial g2 rfl (size_ints _) (by rw [len_ints, List.length_replicate]) (Nat.le_refl _) (cl_ints _)) .nil)) ?_
 rw [hchk]
 set_option smartUnfolding false in conv => whnf
 have RM2 := RM.nil fr2
 generalize h1.new (.cells (ints (List.replicate T.length 0)) true 0) = h2 at *
 refine vc_seq true ?_
 set_option smartUnfolding false in conv => whnf
 obtain ⟨RM3, P3⟩ := pl_new (k := k) (T := T) RM2
 refine vc_seqV (vc_seq true ?_)
 set_option smartUnfolding false in conv => whnf
 refine vc_block ?_
 refine free_l (kh := kh) (how := how) (T := T) (k := k) hk3 hh (fun e g => ?_) 150 0 0 _ _ ⟨T, [], List.replicate T.length none, List.replicate T.length 0⟩ 0 [] [] _ rfl (by omega) rfl ⟨⟨.nils, P3⟩, RM3, inv_new hT⟩ rfl (Int.le_refl _) (Int.le_refl _) ⟨rfl, rfl, rfl, rfl, trivial⟩
 refine vc_slots 0 [] trivial (vpC_sound (z := true) ?_)
 set_option smartUnfolding false in conv => whnf
 subst hQ
 rfl
end
end Ir
end Go.Proofs.YtnlcabhfkpafmaaGreat
