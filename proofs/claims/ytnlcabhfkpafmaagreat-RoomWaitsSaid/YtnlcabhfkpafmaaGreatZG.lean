/-
  Room, in plain Lean: who goes on finds free what it uses; of those that have locked something the later ones have the earlier deadlines. Room, in plain Lean: what holds between steps. Room, in plain Lean: who goes on, and what a step does. Room's laws: the tasks that they make. Room's laws: calls of a room whose answers are known. Room's laws: the chapter's example. Room's laws: a play in a heap; gone, held, noRun. Room's laws: gone, held. Room's laws: a step of a play. RoomFree. Room, in plain Lean: while a job waits, one outermost section alone keeps it waiting. RoomWaits: who had something locked; its loops. RoomWaits. RoomWaits: the statement.
-/
import Derived.Test.YtnlcabhfkpafmaaGreatZF
set_option maxRecDepth 100000
set_option linter.unusedSimpArgs false
set_option linter.unusedVariables false
set_option smartUnfolding false
namespace Go.Proofs.YtnlcabhfkpafmaaGreat
open Go Ads
namespace Ir
abbrev Js := List (Option Jb)
def hasJ (js : Js) (i : Nat) (j : Jb) : Prop := js[i]? = some (some j)
theorem hasJ.eq {js : Js} {i : Nat} {j j' : Jb} (h : hasJ js i j) (h' : hasJ js i j') : j = j' := by
 rw [hasJ] at h h'
 rw [h] at h'
 cases h'
 rfl
def Ahd (js : Js) (a b : Nat) : Prop := ∀ j j', hasJ js a j → hasJ js b j' → ah (a, j.e) (b, j'.e) = true
def Sk (T : List Tk) (js : Js) : List Nat → List En → List Nat → Prop
 | [], L, o => L = [] ∧ o = []
 | a :: R, L, o => ∃ L0 L1 o0, L = L0 ++ L1 ∧ o = o0 ++ cond L1.isEmpty [] [a] ∧ (∀ x ∈ L1, x.1 = ((a : Nat) : Int)) ∧ (∀ x ∈ L0, ceil T x.2 < lvl T a) ∧ a ∉ R ∧ (∀ b ∈ R, Ahd js a b) ∧ Sk T js R L0 o0
section
variable {T : List Tk} {js js' : Js} {R : List Nat} {L : List En} {o : List Nat} {a : Nat}
set_option smartUnfolding true in
theorem Sk.mem : ∀ {R : List Nat} {L : List En} {o : List Nat}, Sk T js R L o → ∀ x ∈ L, ∃ a ∈ R, x.1 = ((a : Nat) : Int)
 | [], L, o, h, x, hx => by rw [h.1] at hx; simp at hx
 | a :: R, L, o, ⟨L0, L1, o0, h1, h2, h3, h4, h5, h6, h7⟩, x, hx => by
  rw [h1, List.mem_append] at hx
  rcases hx with hx | hx
  ·obtain ⟨b, hb, e⟩ := h7.mem x hx
   exact ⟨b, by simp [hb], e⟩
  ·exact ⟨a, by simp, h3 x hx⟩
set_option smartUnfolding true in
theorem Sk.omem : ∀ {R : List Nat} {L : List En} {o : List Nat}, Sk T js R L o → ∀ x ∈ o, x ∈ R
 | [], L, o, h, x, hx => by rw [h.2] at hx; simp at hx
 | a :: R, L, o, ⟨L0, L1, o0, h1, h2, h3, h4, h5, h6, h7⟩, x, hx => by
  rw [h2, List.mem_append] at hx
  rcases hx with hx | hx
  ·exact List.mem_cons_of_mem _ (h7.omem x hx)
  ·cases hl : L1.isEmpty with
   | true => rw [hl] at hx; simp at hx
   | false => rw [hl] at hx; simp at hx; simp [hx]
set_option smartUnfolding true in
theorem Sk.congr : ∀ {R : List Nat} {L : List En} {o : List Nat}, Sk T js R L o → (∀ a ∈ R, ∀ j', hasJ js' a j' → ∃ j, hasJ js a j ∧ j.e = j'.e) → Sk T js' R L o
 | [], L, o, h, _ => h
 | a :: R, L, o, ⟨L0, L1, o0, h1, h2, h3, h4, h5, h6, h7⟩, hc => by
  refine ⟨L0, L1, o0, h1, h2, h3, h4, h5, fun b hb j j' hj hj' => ?_, h7.congr fun b hb => hc b (List.mem_cons_of_mem _ hb)⟩
  obtain ⟨k, k1, k2⟩ := hc a (by simp) j hj
  obtain ⟨l, l1, l2⟩ := hc b (List.mem_cons_of_mem _ hb) j' hj'
  rw [← k2, ← l2]
  exact h6 b hb k l k1 l1
theorem held_app (L M : List En) (t : Int) : heldL (L ++ M) t = heldL L t ++ heldL M t := by rw [heldL, List.filter_append, List.map_append]; rfl
theorem held_no {L : List En} {t : Int} (h : ∀ x ∈ L, x.1 ≠ t) : heldL L t = [] := by
 rw [heldL, List.filter_eq_nil_iff.2 (fun x hx => by simpa using h x hx)]
 rfl
theorem held_all {L : List En} {t : Int} (h : ∀ x ∈ L, x.1 = t) : heldL L t = L.map (·.2) := by
 rw [heldL, List.filter_eq_self.2 (fun x hx => by simpa using h x hx)]
theorem drop_app (L M : List En) (t : Int) : dropL (L ++ M) t = dropL L t ++ dropL M t := List.filter_append ..
theorem Sk.no {L0 : List En} {o0 : List Nat} (h : Sk T js R L0 o0) (ha : a ∉ R) : ∀ x ∈ L0, x.1 ≠ ((a : Nat) : Int) := by
 intro x hx e
 obtain ⟨b, hb, e2⟩ := h.mem x hx
 have : a = b := by omega
 exact ha (this ▸ hb)
set_option smartUnfolding true in
theorem Sk.lock (h : Sk T js (a :: R) L o) (x : Int) : Sk T js (a :: R) (L ++ [(((a : Nat) : Int), x)]) (if heldL L ((a : Nat) : Int) = [] then o ++ [a] else o) := by
 obtain ⟨L0, L1, o0, h1, h2, h3, h4, h5, h6, h7⟩ := h
 have hh : heldL L ((a : Nat) : Int) = L1.map (·.2) := by rw [h1, held_app, held_no (h7.no h5), held_all h3]; rfl
 refine ⟨L0, L1 ++ [(((a : Nat) : Int), x)], o0, by rw [h1, List.append_assoc], ?_, fun y hy => ?_, h4, h5, h6, h7⟩
 ·rw [hh, h2]
  cases L1 with
  | nil => simp
  | cons y l => simp
 ·rcases List.mem_append.1 hy with hy | hy
  ·exact h3 y hy
  ·rw [List.mem_singleton.1 hy]
theorem filter_no {l : List Nat} {a : Nat} (h : a ∉ l) : l.filter (fun x => !(x == a)) = l := by
 rw [List.filter_eq_self]
 intro x hx
 have : x ≠ a := fun e => h (e ▸ hx)
 simpa using this
theorem Sk.gone {L0 L1 : List En} {o0 : List Nat} (h7 : Sk T js R L0 o0) (h5 : a ∉ R) (b : Bool) : (o0 ++ cond b [] [a]).filter (fun x => !(x == a)) = o0 := by
 rw [List.filter_append, filter_no (fun h => h5 (h7.omem a h))]
 cases b <;> simp
set_option smartUnfolding true in
theorem Sk.end' (h : Sk T js (a :: R) L o) : Sk T js R (dropL L ((a : Nat) : Int)) (o.filter fun x => !(x == a)) := by
 obtain ⟨L0, L1, o0, h1, h2, h3, h4, h5, h6, h7⟩ := h
 have d0 : dropL L0 ((a : Nat) : Int) = L0 := List.filter_eq_self.2 (fun x hx => by simpa using h7.no h5 x hx)
 have d1 : dropL L1 ((a : Nat) : Int) = [] := List.filter_eq_nil_iff.2 (fun x hx => by simpa using h3 x hx)
 rw [h1, drop_app, d0, d1, List.append_nil, h2, h7.gone (L1 := L1) h5]
 exact h7
set_option smartUnfolding true in
theorem Sk.unl (h : Sk T js (a :: R) L o) {n : Nat} (hn : n < L.length) (hla : lastI L ((a : Nat) : Int) = ((n : Nat) : Int)) :
  Sk T js (a :: R) (L.eraseIdx n) (if heldL (L.eraseIdx n) ((a : Nat) : Int) = [] then o.filter (fun x => !(x == a)) else o) := by
 have hp := lastN_at L ((a : Nat) : Int) L.length (Nat.le_refl _) n hn hla
 obtain ⟨L0, L1, o0, h1, h2, h3, h4, h5, h6, h7⟩ := h
 subst h1
 have hge : L0.length ≤ n := by
  rcases Nat.lt_or_ge n L0.length with hlt | hge
  ·exfalso
   rw [List.getElem_append_left hlt] at hp
   exact h7.no h5 _ (List.getElem_mem hlt) (eq_of_beq hp)
  ·exact hge
 have he : (L0 ++ L1).eraseIdx n = L0 ++ L1.eraseIdx (n - L0.length) := List.eraseIdx_append_of_length_le hge _
 have hsub : ∀ x ∈ L1.eraseIdx (n - L0.length), x.1 = ((a : Nat) : Int) := fun x hx => h3 x (List.eraseIdx_subset hx)
 have hh : heldL ((L0 ++ L1).eraseIdx n) ((a : Nat) : Int) = (L1.eraseIdx (n - L0.length)).map (·.2) := by rw [he, held_app, held_no (h7.no h5), held_all hsub]; rfl
 have hne : L1.isEmpty = false := by
  cases L1 with
  | nil => rw [List.append_nil] at hn; omega
  | cons x l => rfl
 refine ⟨L0, L1.eraseIdx (n - L0.length), o0, he, ?_, hsub, h4, h5, h6, h7⟩
 rw [hh, h2]
 cases hM : L1.eraseIdx (n - L0.length) with
 | nil => rw [List.map_nil, if_pos rfl, h7.gone (L1 := L1) h5]; simp
 | cons x l => rw [if_neg (by simp), hne]; rfl
end
set_option smartUnfolding true in
theorem ceil_ge {l : List Tk} {r : Int} {i : Nat} (hi : i < l.length) (h : uses l i r = true) : lvl l i ≤ ceil l r := by
 have key : ∀ n, i < n → lvl l i ≤ maxN (ceilS l r) n := by
  intro n
  induction n with
  | zero => intro h; omega
  | succ n ih =>
   intro hn
   by_cases e : i = n
   ·subst e
    rw [ceil_yes h]
    omega
   ·have := ih (by omega)
    show _ ≤ max _ _
    omega
 exact key _ hi
theorem lvl_mono {l : List Tk} {i k : Nat} {t u : Tk} (ht : l[i]? = some t) (hu : l[k]? = some u) (h : t.d ≤ u.d) : lvl l k ≤ lvl l i := by
 have hi := (List.getElem?_eq_some_iff.1 ht).1
 have hk := (List.getElem?_eq_some_iff.1 hu).1
 rw [lvl_in (i := ((i : Nat) : Int)) ⟨by omega, by omega⟩ (by rw [Int.toNat_natCast]; exact ht), lvl_in (i := ((k : Nat) : Int)) ⟨by omega, by omega⟩ (by rw [Int.toNat_natCast]; exact hu)]
 have : above l u.d ≤ above l t.d := List.countP_mono_left fun x _ hx => by
  simp only [decide_eq_true_eq] at hx ⊢
  omega
 omega
theorem lvl_pos {l : List Tk} {i : Nat} (hi : i < l.length) : 0 < lvl l i := by
 rw [lvl_in (i := ((i : Nat) : Int)) ⟨by omega, by omega⟩ (by rw [Int.toNat_natCast]; exact List.getElem?_eq_getElem hi)]
 omega
theorem ceilF_lt {T : List Tk} {L : List En} {n : Int} (h : ∀ x ∈ L, ceil T x.2 < n) (h0 : 0 < n) : ceilF T L < n := by
 have key : ∀ (L : List En) (a : Int), a < n → (∀ x ∈ L, ceil T x.2 < n) → L.foldl (fun n x => max n (ceil T x.2)) a < n := by
  intro L
  induction L with
  | nil => intro a ha _; exact ha
  | cons x L ih =>
   intro a ha hL
   refine ih _ ?_ (fun y hy => hL y (by simp [hy]))
   have := hL x (by simp)
   show max _ _ < n
   omega
 exact key L 0 h0 h
theorem ceilF_ge {T : List Tk} {L : List En} {x : En} (h : x ∈ L) : ceil T x.2 ≤ ceilF T L := by
 have k0 : ∀ (L : List En) (a : Int), a ≤ L.foldl (fun n x => max n (ceil T x.2)) a := by
  intro L
  induction L with
  | nil => intro a; exact Int.le_refl _
  | cons y L ih => intro a; exact Int.le_trans (by omega) (ih (max a (ceil T y.2)))
 have key : ∀ (L : List En) (a : Int), x ∈ L → ceil T x.2 ≤ L.foldl (fun n x => max n (ceil T x.2)) a := by
  intro L
  induction L with
  | nil => intro a h; simp at h
  | cons y L ih =>
   intro a h
   rcases List.mem_cons.1 h with rfl | h
   ·exact Int.le_trans (by omega) (k0 L (max a (ceil T x.2)))
   ·exact ih _ h
 exact key L 0 h
theorem hasJ_set {js : Js} {i n : Nat} {x : Option Jb} {jn : Jb} : hasJ (js.set i x) n jn ↔ (n = i ∧ i < js.length ∧ x = some jn) ∨ (n ≠ i ∧ hasJ js n jn) := by
 rw [hasJ, List.getElem?_set]
 by_cases e : i = n
 ·rw [if_pos e]
  by_cases hl : i < js.length
  ·rw [if_pos hl]
   constructor
   ·intro h; exact .inl ⟨e.symm, hl, Option.some.inj h⟩
   ·rintro (⟨_, _, h⟩ | ⟨h, _⟩)
    ·rw [h]
    ·exact absurd e.symm h
  ·rw [if_neg hl]
   constructor
   ·intro h; cases h
   ·rintro (⟨_, h, _⟩ | ⟨h, _⟩)
    ·exact absurd h hl
    ·exact absurd e.symm h
 ·rw [if_neg e]
  constructor
  ·intro h; exact .inr ⟨fun h => e h.symm, h⟩
  ·rintro (⟨h, _⟩ | ⟨_, h⟩)
   ·exact absurd h.symm e
   ·exact h
def FstJ (js : Js) (i : Nat) (j : Jb) : Prop := hasJ js i j ∧ ∀ (i' : Nat) (j' : Jb), hasJ js i' j' → ah (i', j'.e) (i, j.e) = false
theorem ah_tot {a b : Id} (hn : a.1 ≠ b.1) (h : ah a b = false) : ah b a = true := by
 rw [ah_not] at h
 rw [ah_iff]
 omega
theorem ah_no {a b : Id} (h : ah a b = true) : ah b a = false := ah_as h
structure Inv (T : List Tk) (js : Js) (L : List En) (now : Int) (R : List Nat) (o : List Nat) : Prop where
 n4 : T.length ≤ 4
 jl : js.length = T.length
 tk : ∀ i j, hasJ js i j → T[i]? = some j.t
 sec : ∀ i j, hasJ js i j → j.s = 0 ∨ j.s = 1
 e : ∀ i j, hasJ js i j → j.e ≤ now + j.t.d
 rj : ∀ a ∈ R, ∃ j, hasJ js a j
 gR : ∀ i j, hasJ js i j → j.g = true → i ∈ R
 nf : ∀ f j a ja, hasJ js f j → f ∉ R → a ∈ R → hasJ js a ja → ah (f, j.e) (a, ja.e) = true → j.t.d ≤ ja.t.d
 sk : Sk T js R L o
 ln : (L.length : Int) ≤ now
section
variable {T : List Tk} {js : Js} {L L' : List En} {now : Int} {R : List Nat} {o o' : List Nat} {i : Nat} {j j' : Jb}
theorem Inv.tick (I : Inv T js L now R o) : Inv T js L (now + 1) R o :=
 ⟨I.n4, I.jl, I.tk, I.sec, fun i j h => by have := I.e i j h; omega, I.rj, I.gR, I.nf, I.sk, by have := I.ln; omega⟩
theorem Inv.lt (I : Inv T js L now R o) (h : hasJ js i j) : i < T.length := (List.getElem?_eq_some_iff.1 (I.tk i j h)).1
theorem Sk.head {a : Nat} {R : List Nat} (h : Sk T js (a :: R) L o) : ∀ b ∈ R, Ahd js a b := by
 obtain ⟨L0, L1, o0, h1, h2, h3, h4, h5, h6, h7⟩ := h
 exact h6
theorem Inv.fst_in (I : Inv T js L now R o) (F : FstJ js i j) (hi : i ∈ R) : ∃ R', R = i :: R' := by
 cases hR : R with
 | nil => rw [hR] at hi; simp at hi
 | cons a R' =>
  rw [hR] at hi
  rcases List.mem_cons.1 hi with rfl | hi
  ·exact ⟨R', rfl⟩
  ·exfalso
   have sk := I.sk
   rw [hR] at sk
   obtain ⟨ja, hja⟩ := I.rj a (by rw [hR]; simp)
   have := sk.head i hi ja j hja F.1
   rw [F.2 a ja hja] at this
   cases this
theorem Inv.who (I : Inv T js L now R o) (F : FstJ js i j) (h : j.g = true ∨ lvl T i > ceilF T L) : (∃ R', R = i :: R') ∨ (i ∉ R ∧ Inv T js L now (i :: R) o) := by
 by_cases hi : i ∈ R
 ·exact .inl (I.fst_in F hi)
 ·right
  have hl : lvl T i > ceilF T L := h.resolve_left fun hg => hi (I.gR i j F.1 hg)
  refine ⟨hi, I.n4, I.jl, I.tk, I.sec, I.e, fun a ha => ?_, fun n jn h1 h2 => List.mem_cons_of_mem _ (I.gR n jn h1 h2), fun f jf a ja h1 h2 h3 h4 h5 => ?_, ⟨L, [], o, by simp, by simp, by simp, fun x hx => ?_, hi, fun b hb ji jb h1 h2 => ?_, I.sk⟩, I.ln⟩
  ·rcases List.mem_cons.1 ha with rfl | ha
   ·exact ⟨j, F.1⟩
   ·exact I.rj a ha
  ·rcases List.mem_cons.1 h3 with rfl | h3
   ·rw [h4.eq F.1, F.2 f jf h1] at h5
    cases h5
   ·exact I.nf f jf a ja h1 (fun h => h2 (by simp [h])) h3 h4 h5
  ·have := ceilF_ge (T := T) hx
   omega
  ·rw [h1.eq F.1]
   exact ah_tot (fun e => hi (by have e : b = i := e; rw [← e]; exact hb)) (F.2 b jb h2)
set_option smartUnfolding true in
theorem Inv.top (I : Inv T js L now R o) (F : FstJ js i j) (hl : ¬ lvl T i > ceilF T L) : ∃ a R', R = a :: R' ∧ topL L = (((a : Nat) : Int), true) ∧ heldL L ((a : Nat) : Int) ≠ [] ∧
  (i = a ∨ (i ∉ R ∧ ¬ ∀ x ∈ L, x.1 = ((a : Nat) : Int) → ceil T x.2 < lvl T i)) := by
 have hlt := I.lt F.1
 have hpos := lvl_pos hlt
 cases hR : R with
 | nil =>
  exfalso
  have sk := I.sk
  rw [hR] at sk
  rw [sk.1] at hl
  exact hl (by show lvl T i > 0; omega)
 | cons a R' =>
  have sk := I.sk
  rw [hR] at sk
  obtain ⟨L0, L1, o0, h1, h2, h3, h4, h5, h6, h7⟩ := sk
  obtain ⟨ja, hja⟩ := I.rj a (by rw [hR]; simp)
  have hia : i = a ∨ (i ∉ R ∧ lvl T a ≤ lvl T i) := by
   by_cases e : i = a
   ·exact .inl e
   ·right
    have hn : i ∉ R := fun hi => by
     obtain ⟨R2, h⟩ := I.fst_in F hi
     rw [hR] at h
     cases h
     exact e rfl
    exact ⟨hn, lvl_mono (I.tk i j F.1) (I.tk a ja hja) (I.nf i j a ja F.1 hn (by rw [hR]; simp) hja (ah_tot (fun h => e h.symm) (F.2 a ja hja)))⟩
  have hle : lvl T a ≤ lvl T i := by
   rcases hia with rfl | h
   ·exact Int.le_refl _
   ·exact h.2
  have hno : ¬ ∀ x ∈ L, x.1 = ((a : Nat) : Int) → ceil T x.2 < lvl T i := by
   intro hall
   apply hl
   refine ceilF_lt (fun x hx => ?_) hpos
   rw [h1] at hx
   rcases List.mem_append.1 hx with h | h
   ·have := h4 x h; omega
   ·exact hall x (by rw [h1]; exact List.mem_append_right _ h) (h3 x h)
  have hne : L1 ≠ [] := by
   intro e
   apply hno
   intro x hx e2
   rw [h1, e, List.append_nil] at hx
   exact absurd e2 (h7.no h5 x hx)
  refine ⟨a, R', rfl, ?_, ?_, ?_⟩
  ·obtain ⟨y, hy⟩ : ∃ y, L1.getLast? = some y := by
    rw [List.getLast?_eq_some_getLast hne]
    exact ⟨_, rfl⟩
   have : L.getLast? = some y := by rw [h1, List.getLast?_append, hy]; rfl
   rw [topL, this]
   show (y.1, true) = _
   rw [h3 y (List.mem_of_getLast? hy)]
  ·rw [h1, held_app, held_no (h7.no h5), held_all h3]
   cases L1 with
   | nil => exact absurd rfl hne
   | cons x l => simp
  ·rcases hia with h | h
   ·exact .inl h
   ·exact .inr ⟨by rw [← hR]; exact h.1, hno⟩
set_option smartUnfolding true in
theorem Inv.free {a : Nat} {R' : List Nat} (I : Inv T js L now (a :: R') o) {x u : Int} (hu : uses T a x = true) (hx : (u, x) ∈ L) : u = ((a : Nat) : Int) := by
 obtain ⟨ja, hja⟩ := I.rj a (by simp)
 obtain ⟨L0, L1, o0, h1, h2, h3, h4, h5, h6, h7⟩ := I.sk
 rw [h1] at hx
 rcases List.mem_append.1 hx with h | h
 ·have : ceil T x < lvl T a := h4 _ h
  have := ceil_ge (I.lt hja) hu
  omega
 ·exact h3 _ h
theorem Inv.rel {t : Tk} (I : Inv T js L now R o) (h0 : js[i]? = some none) (ht : T[i]? = some t) (h1 : j'.g = false) (h2 : j'.t = t) (h3 : j'.s = 0) (h4 : j'.e = now + t.d) : Inv T (js.set i (some j')) L now R o := by
 have hno : ∀ j, ¬ hasJ js i j := fun j h => by rw [hasJ, h0] at h; cases h
 have hiR : i ∉ R := fun h => by obtain ⟨j, hj⟩ := I.rj i h; exact hno j hj
 have old : ∀ {n jn}, hasJ (js.set i (some j')) n jn → (n = i ∧ jn = j') ∨ (n ≠ i ∧ hasJ js n jn) := fun h => by
  rcases hasJ_set.1 h with ⟨a, _, b⟩ | h
  ·exact .inl ⟨a, (Option.some.inj b).symm⟩
  ·exact .inr h
 refine ⟨I.n4, by rw [List.length_set]; exact I.jl, fun n jn h => ?_, fun n jn h => ?_, fun n jn h => ?_, fun a ha => ?_, fun n jn h hg => ?_, fun f jf a ja b1 b2 b3 b4 b5 => ?_, I.sk.congr fun a ha ja h => ?_, I.ln⟩
 ·rcases old h with ⟨rfl, rfl⟩ | ⟨_, h⟩
  ·rw [h2]; exact ht
  ·exact I.tk n jn h
 ·rcases old h with ⟨rfl, rfl⟩ | ⟨_, h⟩
  ·exact .inl h3
  ·exact I.sec n jn h
 ·rcases old h with ⟨rfl, rfl⟩ | ⟨_, h⟩
  ·rw [h4, h2]; exact Int.le_refl _
  ·exact I.e n jn h
 ·obtain ⟨ja, hja⟩ := I.rj a ha
  exact ⟨ja, hasJ_set.2 (.inr ⟨fun e => hiR (e ▸ ha), hja⟩)⟩
 ·rcases old h with ⟨rfl, rfl⟩ | ⟨_, h⟩
  ·rw [h1] at hg; cases hg
  ·exact I.gR n jn h hg
 ·have ha : hasJ js a ja := by
   rcases old b4 with ⟨rfl, _⟩ | ⟨_, h⟩
   ·exact absurd b3 hiR
   ·exact h
  rcases old b1 with ⟨rfl, rfl⟩ | ⟨_, h⟩
  ·have q := I.e a ja ha
   rw [ah_iff] at b5
   rw [h2]
   simp only [h4] at b5
   omega
  ·exact I.nf f jf a ja h b2 b3 ha b5
 ·rcases old h with ⟨rfl, _⟩ | ⟨_, h⟩
  ·exact absurd ha hiR
  ·exact ⟨ja, h, rfl⟩
theorem Inv.job (I : Inv T js L now R o) (hj : hasJ js i j) (h1 : j'.e = j.e) (h2 : j'.t = j.t) (h3 : j'.s = 0 ∨ j'.s = 1) (h4 : j'.g = true → i ∈ R) (hs : Sk T js R L' o') (hl : (L'.length : Int) ≤ now) : Inv T (js.set i (some j')) L' now R o' := by
 have hil : i < js.length := (List.getElem?_eq_some_iff.1 hj).1
 have old : ∀ {n jn}, hasJ (js.set i (some j')) n jn → ∃ k, hasJ js n k ∧ k.e = jn.e ∧ k.t = jn.t ∧ (jn = j' ∧ n = i ∨ jn = k) := fun h => by
  rcases hasJ_set.1 h with ⟨a, _, b⟩ | ⟨_, h⟩
  ·cases b
   subst a
   exact ⟨j, hj, h1.symm, h2.symm, .inl ⟨rfl, rfl⟩⟩
  ·exact ⟨_, h, rfl, rfl, .inr rfl⟩
 refine ⟨I.n4, by rw [List.length_set]; exact I.jl, fun n jn h => ?_, fun n jn h => ?_, fun n jn h => ?_, fun a ha => ?_, fun n jn h hg => ?_, fun f jf a ja b1 b2 b3 b4 b5 => ?_, hs.congr fun a ha ja h => ?_, hl⟩
 ·obtain ⟨k, k1, k2, k3, k4⟩ := old h
  rw [← k3]; exact I.tk n k k1
 ·obtain ⟨k, k1, k2, k3, k4⟩ := old h
  rcases k4 with ⟨rfl, _⟩ | rfl
  ·exact h3
  ·exact I.sec n _ k1
 ·obtain ⟨k, k1, k2, k3, k4⟩ := old h
  rw [← k2, ← k3]; exact I.e n k k1
 ·obtain ⟨ja, hja⟩ := I.rj a ha
  by_cases e : a = i
  ·exact ⟨j', hasJ_set.2 (.inl ⟨e, hil, rfl⟩)⟩
  ·exact ⟨ja, hasJ_set.2 (.inr ⟨e, hja⟩)⟩
 ·obtain ⟨k, k1, k2, k3, k4⟩ := old h
  rcases k4 with ⟨rfl, rfl⟩ | rfl
  ·exact h4 hg
  ·exact I.gR n _ k1 hg
 ·obtain ⟨k, k1, k2, k3, k4⟩ := old b1
  obtain ⟨l, l1, l2, l3, l4⟩ := old b4
  rw [← k3, ← l3]
  rw [← k2, ← l2] at b5
  exact I.nf f k a l k1 b2 b3 l1 b5
 ·obtain ⟨k, k1, k2, _⟩ := old h
  exact ⟨k, k1, k2⟩
theorem Inv.end' {a : Nat} {R' : List Nat} (I : Inv T js L now (a :: R') o) : Inv T (js.set a none) (dropL L ((a : Nat) : Int)) now R' (o.filter fun x => !(x == a)) := by
 have hna : a ∉ R' := by obtain ⟨L0, L1, o0, h1, h2, h3, h4, h5, h6, h7⟩ := I.sk; exact h5
 have old : ∀ {n jn}, hasJ (js.set a none) n jn → n ≠ a ∧ hasJ js n jn := fun h => by
  rcases hasJ_set.1 h with ⟨_, _, b⟩ | h
  ·cases b
  ·exact h
 refine ⟨I.n4, by rw [List.length_set]; exact I.jl, fun n jn h => I.tk n jn (old h).2, fun n jn h => I.sec n jn (old h).2, fun n jn h => I.e n jn (old h).2, fun b hb => ?_, fun n jn h hg => ?_, fun f jf b jb b1 b2 b3 b4 b5 => ?_, I.sk.end'.congr fun b hb jb h => ⟨jb, (old h).2, rfl⟩, ?_⟩
 ·obtain ⟨jb, hjb⟩ := I.rj b (List.mem_cons_of_mem _ hb)
  exact ⟨jb, hasJ_set.2 (.inr ⟨fun e => hna (e ▸ hb), hjb⟩)⟩
 ·obtain ⟨h1, h2⟩ := old h
  exact (List.mem_cons.1 (I.gR n jn h2 hg)).resolve_left h1
 ·obtain ⟨h1, h2⟩ := old b1
  exact I.nf f jf b jb h2 (fun h => (List.mem_cons.1 h).elim h1 b2) (List.mem_cons_of_mem _ b3) (old b4).2 b5
 ·have := I.ln
  have : (dropL L ((a : Nat) : Int)).length ≤ L.length := List.length_filter_le ..
  omega
end
def JE (js js' : Js) : Prop := (∀ i j', hasJ js' i j' → ∃ j, hasJ js i j ∧ j.e = j'.e) ∧ ∀ i j, hasJ js i j → ∃ j', hasJ js' i j' ∧ j'.e = j.e
theorem JE.refl (js : Js) : JE js js := ⟨fun i j h => ⟨j, h, rfl⟩, fun i j h => ⟨j, h, rfl⟩⟩
theorem JE.set {js : Js} {i : Nat} {j j' : Jb} (h : hasJ js i j) (he : j'.e = j.e) : JE js (js.set i (some j')) := by
 have hl : i < js.length := (List.getElem?_eq_some_iff.1 h).1
 refine ⟨fun n jn hn => ?_, fun n jn hn => ?_⟩
 ·rcases hasJ_set.1 hn with ⟨rfl, _, e⟩ | ⟨_, h'⟩
  ·cases e
   exact ⟨j, h, he.symm⟩
  ·exact ⟨jn, h', rfl⟩
 ·by_cases e : n = i
  ·subst e
   rw [hn.eq h]
   exact ⟨j', hasJ_set.2 (.inl ⟨rfl, hl, rfl⟩), he⟩
  ·exact ⟨jn, hasJ_set.2 (.inr ⟨e, hn⟩), rfl⟩
def Blk (T : List Tk) (js : Js) (L : List En) (R : List Nat) (a : Nat) : Prop := ∀ t jt ja, hasJ js t jt → hasJ js a ja → t ∉ R → ah (t, jt.e) (a, ja.e) = true →
 ∃ f jf, hasJ js f jf ∧ f ∉ R ∧ (f = t ∨ ah (f, jf.e) (t, jt.e) = true) ∧ ¬ ∀ x ∈ L, x.1 = ((a : Nat) : Int) → ceil T x.2 < lvl T f
def Goes (T : List Tk) (js : Js) (L : List En) (R : List Nat) (a : Nat) (R2 : List Nat) : Prop := (R = a :: R2 ∨ (a ∉ R ∧ (∃ j, FstJ js a j) ∧ R2 = R)) ∧ Blk T js L (a :: R2) a
def Mv (T : List Tk) (js : Js) (L : List En) (R : List Nat) (js' : Js) (L' : List En) (R' : List Nat) : Prop := (R' = R ∧ js' = js ∧ L' = L) ∨
 ∃ a R2, Goes T js L R a R2 ∧ ((R' = a :: R2 ∧ JE js js' ∧ ∀ x ∈ L', x.1 = ((a : Nat) : Int) ∨ x ∈ L) ∨ (R' = R2 ∧ js' = js.set a none ∧ L' = dropL L ((a : Nat) : Int)))
section
variable {T : List Tk} {js : Js} {L L' : List En} {now : Int} {R : List Nat} {o o' : List Nat} {i : Nat} {j : Jb}
theorem blk_fst (F : FstJ js i j) {R : List Nat} : Blk T js L R i := by
 intro t jt ja ht ha _ h
 rw [ha.eq F.1, F.2 t jt ht] at h
 cases h
theorem Inv.goes_fst (I : Inv T js L now R o) (F : FstJ js i j) (h : j.g = true ∨ lvl T i > ceilF T L) : ∃ R2, Goes T js L R i R2 ∧ Inv T js L now (i :: R2) o := by
 rcases I.who F h with ⟨R2, rfl⟩ | ⟨hn, I2⟩
 ·exact ⟨R2, ⟨.inl rfl, blk_fst F⟩, I⟩
 ·exact ⟨R, ⟨.inr ⟨hn, ⟨j, F⟩, rfl⟩, blk_fst F⟩, I2⟩
theorem Inv.goes_top (I : Inv T js L now R o) (F : FstJ js i j) (hl : ¬ lvl T i > ceilF T L) : ∃ a R2, topL L = (((a : Nat) : Int), true) ∧ Goes T js L R a R2 ∧ Inv T js L now (a :: R2) o := by
 obtain ⟨a, R2, rfl, h1, h2, h3⟩ := I.top F hl
 refine ⟨a, R2, h1, ⟨.inl rfl, ?_⟩, I⟩
 rcases h3 with rfl | ⟨h3, h4⟩
 ·exact blk_fst F
 ·intro t jt ja ht ha hn h
  refine ⟨i, j, F.1, h3, ?_, h4⟩
  by_cases e : i = t
  ·exact .inl e
  ·exact .inr (ah_tot (fun h => e h.symm) (F.2 t jt ht))
end
def mkP (t : Tk) : Int := 1 + bring t.p 64
def mkD (t : Tk) : Int := 1 + bring t.d (mkP t)
def mkW (t : Tk) : Int := 1 + bring t.w (mkD t)
def mkA (t : Tk) : Int := bring t.a 16
def mkT (t : Tk) : Tk := ⟨mkP t, mkD t, mkW t, mkA t, if decide (mkA t > 0) = true then mkW t else 0, 0, 0, 0⟩
theorem bring_in {i n : Int} (h : 0 < n) : 0 ≤ bring i n ∧ bring i n < n := ⟨Int.emod_nonneg _ (by omega), Int.emod_lt_of_pos _ h⟩
theorem made_l {l : List Tk} {k B : Nat} {Q : AX → Env → Heap → Prop} (hl : l.length < 2 ^ 62) (hQ : ∀ h v e, GR 8 0 h v (tks ((l.take 4).map mkT)) → AllAt e [(3, v)] → Q (.exit 0) e h) :
  ∀ (m i : Nat) (h : Heap) (v : AV) (env : Env), 4 - i = m → i ≤ 4 → i ≤ l.length → GR 8 0 h v (tks ((l.take i).map mkT)) →
   AllAt env [(0, .fz k (tks l)), (3, v), (4, .int .i64 ((i : Nat) : Int))] → VC fs ms B false (.loop L_escapementlaw18_made_0) env h Q := by
 intro m
 induction m using Nat.strongRecOn with
 | ind m ih =>
 intro i h v env hm hi hil hg henv
 refine vc_slots 6 _ henv ?_
 refine vc_loop (z := true) ?_
 have hct : decide (((i : Nat) : Int) < (((tks l).length : Nat) : Int)) = decide (i < l.length) := by rw [len_tks]; simp
 cases c : decide (i < l.length) with
 | false =>
  rw [c] at hct
  conv => whnf
  refine brf (hct) (fun hc => ?_)
  (try rw [hc])
  conv => whnf
  have hge : l.length ≤ i := by have := of_decide_eq_false c; omega
  refine hQ h v _ ?_ ⟨rfl, trivial⟩
  rw [List.take_of_length_le (show l.length ≤ 4 by omega), ← List.take_of_length_le hge]
  exact hg
 | true =>
  rw [c] at hct
  have hlt : i < l.length := of_decide_eq_true c
  conv => whnf
  refine brt (hct) (fun hc => ?_)
  (try rw [hc])
  conv => whnf
  refine br (fun hc => ?_) (fun hc => ?_) <;> (try rw [hc]) <;> (conv => whnf)
  ·have hi4 : i < 4 := by have := of_decide_eq_true hc; omega
   refine ⟨_, idx_tk hlt, ?_⟩
   conv => whnf
   obtain ⟨t, ht⟩ : ∃ t, t = l[i] := ⟨_, rfl⟩
   have bp := bring_in (i := t.p) (n := 64) (by decide)
   have ep : IntKind.i64.wrap (1 + bring t.p 64) = mkP t := IntWalk.i64_in _ (by omega)
   have kp : 0 < mkP t ∧ mkP t ≤ 64 := ⟨by show 0 < 1 + bring t.p 64; omega, by show 1 + bring t.p 64 ≤ 64; omega⟩
   have bd := bring_in (i := t.d) kp.1
   have ed : IntKind.i64.wrap (1 + bring t.d (mkP t)) = mkD t := IntWalk.i64_in _ (by omega)
   have kd : 0 < mkD t ∧ mkD t ≤ 64 := ⟨by show 0 < 1 + bring t.d (mkP t); omega, by show 1 + bring t.d (mkP t) ≤ 64; omega⟩
   have bw := bring_in (i := t.w) kd.1
   have ew : IntKind.i64.wrap (1 + bring t.w (mkD t)) = mkW t := IntWalk.i64_in _ (by omega)
   rw [← ht]
   refine ⟨.int .i64 t.p, rfl, ?_⟩
   conv => whnf
   refine vd_pure (bring_c t.p 64 (by decide) (by decide)) ?_
   conv => whnf
   rw [ep]
   refine ⟨_, idx_tk hlt, ?_⟩
   conv => whnf
   rw [← ht]
   refine ⟨.int .i64 t.d, rfl, ?_⟩
   conv => whnf
   refine vd_pure (bring_c t.d (mkP t) kp.1 (by omega)) ?_
   conv => whnf
   rw [ed]
   refine ⟨_, idx_tk hlt, ?_⟩
   conv => whnf
   rw [← ht]
   refine ⟨.int .i64 t.w, rfl, ?_⟩
   conv => whnf
   refine vd_pure (bring_c t.w (mkD t) kd.1 (by omega)) ?_
   conv => whnf
   rw [ew]
   refine ⟨_, idx_tk hlt, ?_⟩
   conv => whnf
   rw [← ht]
   refine ⟨.int .i64 t.a, rfl, ?_⟩
   conv => whnf
   refine vd_pure (bring_c t.a 16 (by decide) (by decide)) ?_
   conv => whnf
   refine eff_o (sto_o get_new_same rfl (Nat.le_refl _) rfl) fun h1 e1 => ?_
   have fr1 : Fr h h1 [] := by rw [e1]; exact ((Fr.refl h []).new (x := _)).setn (Nat.le_refl _)
   have gb : h1.get h.next = some (.cells (tk ⟨mkP t, mkD t, mkW t, mkA t, 0, 0, 0, 0⟩).cells true 0) := by rw [e1, get_set_same]; rfl
   have nb : h.next < h1.next := by rw [e1]; exact Nat.lt_succ_self _
   clear e1
   conv => whnf
   refine ⟨winOk_of (by (conv => whnf); repeat' (first | exact trivial | (exact ⟨rfl, rfl, .inr ⟨_, _, rfl⟩⟩) | (refine ⟨rfl, rfl, .inl ⟨rfl, fun o ho => ?_⟩⟩; cases ho; first | rfl) | (exact ⟨rfl, .inr ⟨_, _, rfl⟩⟩) | (refine ⟨rfl, .inl ⟨rfl, fun i o hi ho => ?_⟩⟩; cases hi; cases ho; first | rfl) | (refine And.intro (fun hon => (Bool.false_ne_true hon).elim) ?_ <;> conv => whnf) | (refine And.intro (fun _ => ?_) ?_ <;> conv => whnf) | (refine And.intro ?_ ?_ <;> conv => whnf))), ?_⟩
   conv => whnf
   refine ⟨_, ld1 gb rfl, ?_⟩
   conv => whnf
   have step : ∀ (h2 : Heap), Fr h h2 [] → h2.get h.next = some (.cells (tk (mkT t)).cells true 0) → ∀ (K : Prop), (∀ v' g', GR 8 0 g' v' (tks ((l.take (i + 1)).map mkT)) → eV (.append 8 64) [v, .sl h2.next 0 1 1 false] (h2.new (.cells (tk (mkT t)).cells true 0)) = some (v', g') → K) → K := by
    intro h2 fr2 g2 K hK
    have hlen : ((l.take i).map mkT).length = i := by rw [List.length_map, List.length_take]; omega
    obtain ⟨v', g', a1, a2, a3, a4⟩ := (hg.keep fr2 (by simp)).app (bytes := 64) (Nat.zero_le _) (x := tk (mkT t)) rfl rfl (size_tksR _) (by rw [len_tks, hlen]; omega) (by rw [len_tks, hlen]; omega)
    refine hK v' g' ?_ a1
    have : (l.take (i + 1)).map mkT = (l.take i).map mkT ++ [mkT t] := by rw [take_next hlt, List.map_append, ht]; rfl
    rw [this, tks, List.map_append]
    exact a2
   refine br (fun hc => ?_) (fun hc => ?_) <;> (try rw [hc]) <;> (conv => whnf)
   ·refine ⟨_, ld1 gb rfl, ?_⟩
    conv => whnf
    refine eff_o (sto_o gb rfl (yB rfl) rfl) fun h2 e2 => ?_
    have em : tk (mkT t) = .agg [.int .i64 (mkP t), .int .i64 (mkD t), .int .i64 (mkW t), .int .i64 (mkA t), .int .i64 (mkW t), .int .i64 0, .int .i64 0, .int .i64 0] := by
     rw [mkT, if_pos hc]; rfl
    have g2 : h2.get h.next = some (.cells (tk (mkT t)).cells true 0) := by rw [em, e2]; exact get_set_same
    have fr2 : Fr h h2 [] := by rw [e2]; exact fr1.setn (Nat.le_refl _)
    conv => whnf
    refine ⟨_, Ads.ldN (n := 8) g2 (Nat.le_refl _), ?_⟩
    conv => whnf
    refine step h2 fr2 g2 _ fun v' g' hg' ha => ⟨_, _, ha, ?_⟩
    conv => whnf
    exact ih (4 - (i + 1)) (by omega) (i + 1) _ _ _ rfl (by omega) (by omega) hg' ⟨rfl, rfl, inc_slot (by omega), trivial⟩
   ·have em : tk (mkT t) = .agg [.int .i64 (mkP t), .int .i64 (mkD t), .int .i64 (mkW t), .int .i64 (mkA t), .int .i64 0, .int .i64 0, .int .i64 0, .int .i64 0] := by
     rw [mkT, if_neg (by rw [hc]; simp)]; rfl
    have g2 : h1.get h.next = some (.cells (tk (mkT t)).cells true 0) := by rw [em]; exact gb
    refine ⟨_, Ads.ldN (n := 8) g2 (Nat.le_refl _), ?_⟩
    conv => whnf
    refine step h1 fr1 g2 _ fun v' g' hg' ha => ⟨_, _, ha, ?_⟩
    conv => whnf
    exact ih (4 - (i + 1)) (by omega) (i + 1) _ _ _ rfl (by omega) (by omega) hg' ⟨rfl, rfl, inc_slot (by omega), trivial⟩
  ·have h4 : i = 4 := by have := of_decide_eq_false hc; omega
   subst h4
   exact hQ h v _ hg ⟨rfl, trivial⟩
def madeT (l : List Tk) : List Tk := (l.take 4).map mkT
theorem madeT_4 (l : List Tk) : (madeT l).length ≤ 4 := by rw [madeT, List.length_map, List.length_take]; omega
theorem grow3 {l : List Tk} (h : growK (tks l).length = 3) : l = [] := by
 cases l with
 | nil => rfl
 | cons x l => cases h
set_option smartUnfolding true in
theorem made_c (k : Nat) (l : List Tk) (hl : l.length < 2 ^ 62) : PC fs ms f_escapementlaw18_made [.fz k (tks l)] (.fz (growK (tks (madeT l)).length) (tks (madeT l))) := by
 refine ⟨by simp [clL, AV.cl, cl_tks], by simp [AV.cl, cl_tks], ?_⟩
 refine vd_begin (af := C_escapementlaw18_made) rfl (yB rfl) ?_
 generalize hQ : (fun (u : AV) (g : Heap) => Frz (fun _ => True) g u (.fz (growK (tks (madeT l)).length) (tks (madeT l)))) = Q
 set_option smartUnfolding false in conv => whnf
 refine vc_seq true ?_
 set_option smartUnfolding false in conv => whnf
 refine vc_seq true ?_
 set_option smartUnfolding false in conv => whnf
 refine vc_seqV (vc_seq true ?_)
 set_option smartUnfolding false in conv => whnf
 refine vc_block ?_
 refine made_l hl ?_ 4 0 _ .nils _ rfl (by omega) (by omega) .nil ⟨rfl, rfl, rfl, trivial⟩
 intro h v e hg he
 refine vc_slots 3 _ he (vpC_sound (z := true) ?_)
 set_option smartUnfolding false in conv => whnf
 subst hQ
 have hg : GR 8 0 h v (tks (madeT l)) := hg
 have hs := size_tksR (madeT l)
 have hcl := cl_tks (madeT l)
 generalize tks (madeT l) = M at *
 rcases hg with ⟨rfl, rfl⟩ | ⟨hne, b, h1, h2, rfl, h4⟩
 ·exact .nils
 ·cases M with
  | nil => exact absurd rfl hne
  | cons m M => exact frz_open trivial h4 rfl hs rfl hcl
section
variable {h : Heap} {col : Nat → Nat} {r : Nat} {st : St} {Q : AV → Heap → Prop} {i : Nat} {j : Jb} {tk0 : Tk} {l : List Op} {kk : Nat} {now n : Int}
theorem rmrel_c (R : RA h col r st) (hk : kk = 3 → l = []) (hl : l.length ≤ 1000) (h0 : askE st.T i ≠ 0 → Q (.int .i64 (askE st.T i)) h)
  (h1 : ∀ (i' : Nat) (j : Jb), ((i : Nat) : Int) = ((i' : Nat) : Int) → st.j[i']? = some (some j) → Q (.int .i64 141) h)
  (h2 : ∀ (i' : Nat) (tk : Tk), ((i : Nat) : Int) = ((i' : Nat) : Int) → st.T[i']? = some tk → st.j[i']? = some none → jnewE tk l now ≠ 0 → ∀ h' col', RA h' col' r st → Kc h h' col col' R3K → Q (.int .i64 (jnewE tk l now)) h')
  (h3 : ∀ (i' : Nat) (tk : Tk) (n : Int), ((i : Nat) : Int) = ((i' : Nat) : Int) → st.T[i']? = some tk → st.j[i']? = some none → jnewE tk l now = 0 → st.g[i']? = some n → gAsk n now ≠ 0 → ∀ h' col', RA h' col' r st → Kc h h' col col' R3K → Q (.int .i64 (gAsk n now)) h')
  (h4 : ∀ (i' : Nat) (tk : Tk) (n : Int), ((i : Nat) : Int) = ((i' : Nat) : Int) → st.T[i']? = some tk → st.j[i']? = some none → jnewE tk l now = 0 → st.g[i']? = some n → gAsk n now = 0 → ∀ h' col', RA h' col' r { st with j := st.j.set i' (some (jNew tk l now)), g := st.g.set i' (gNx tk.p n now) } → Kc h h' col col' R3K → Q (.int .i64 0) h') :
  VD fs ms f_room_Room_Release [.ptr r 0, .int .i64 ((i : Nat) : Int), .fz kk (ops l), .int .i64 now] h Q :=
 rmrel_g R (bs := []) (by simp) (fun t0 Q a b => jnew_c hk (by omega) a b) h0 h1 h2 h3 h4
theorem ask_lt (hi : i < st.T.length) : askE st.T i = 0 := by rw [askE, decide_eq_false (by omega), decide_eq_false (by omega)]; rfl
theorem rel_ok (R : RA h col r st) (hk : kk = 3 → l = []) (hl : l.length ≤ 1000) (ht : st.T[i]? = some tk0) (hj : st.j[i]? = some none) (hg : st.g[i]? = some n) (hz : jnewE tk0 l now = 0) (ha : gAsk n now = 0)
  (hQ : ∀ h' col', RA h' col' r { st with j := st.j.set i (some (jNew tk0 l now)), g := st.g.set i (gNx tk0.p n now) } → Q (.int .i64 0) h') : VD fs ms f_room_Room_Release [.ptr r 0, .int .i64 ((i : Nat) : Int), .fz kk (ops l), .int .i64 now] h Q := by
 refine rmrel_c R hk hl (fun h => (h (ask_lt (List.getElem?_eq_some_iff.1 ht).1)).elim) (fun i' j' hi' hj' => ?_) (fun i' t' hi' ht' _ hn => ?_) (fun i' t' n' hi' ht' _ _ hg' hn => ?_) (fun i' t' n' hi' ht' hj' _ hg' _ h' col' R' _ => ?_)
 all_goals obtain rfl : i = i' := by omega
 ·rw [hj] at hj'; cases hj'
 ·rw [ht] at ht'; cases ht'; exact absurd hz hn
 ·rw [hg] at hg'; cases hg'; exact absurd ha hn
 ·rw [ht] at ht'; cases ht'
  rw [hg] at hg'; cases hg'
  exact hQ h' col' R'
theorem rel_busy (R : RA h col r st) (hk : kk = 3 → l = []) (hl : l.length ≤ 1000) (hi : i < st.T.length) (hj : st.j[i]? = some (some j)) (hQ : Q (.int .i64 141) h) : VD fs ms f_room_Room_Release [.ptr r 0, .int .i64 ((i : Nat) : Int), .fz kk (ops l), .int .i64 now] h Q := by
 refine rmrel_c R hk hl (fun h => (h (ask_lt hi)).elim) (fun i' j' hi' hj' => hQ) (fun i' t' hi' ht' hj' hn => ?_) (fun i' t' n' hi' ht' hj' _ hg' hn => ?_) (fun i' t' n' hi' ht' hj' _ hg' _ h' col' R' _ => ?_)
 all_goals (obtain rfl : i = i' := by omega); rw [hj] at hj'; cases hj'
theorem rel_early (R : RA h col r st) (hk : kk = 3 → l = []) (hl : l.length ≤ 1000) (ht : st.T[i]? = some tk0) (hj : st.j[i]? = some none) (hg : st.g[i]? = some n) (hz : jnewE tk0 l now = 0) (ha : gAsk n now = 140)
  (hQ : ∀ h' col', RA h' col' r st → Q (.int .i64 140) h') : VD fs ms f_room_Room_Release [.ptr r 0, .int .i64 ((i : Nat) : Int), .fz kk (ops l), .int .i64 now] h Q := by
 refine rmrel_c R hk hl (fun h => (h (ask_lt (List.getElem?_eq_some_iff.1 ht).1)).elim) (fun i' j' hi' hj' => ?_) (fun i' t' hi' ht' _ hn => ?_) (fun i' t' n' hi' ht' _ _ hg' hn h' col' R' _ => ?_) (fun i' t' n' hi' ht' hj' _ hg' hn h' col' R' _ => ?_)
 all_goals obtain rfl : i = i' := by omega
 ·rw [hj] at hj'; cases hj'
 ·rw [ht] at ht'; cases ht'; exact absurd hz hn
 ·rw [hg] at hg'; cases hg'
  rw [ha]
  exact hQ h' col' R'
 ·rw [hg] at hg'; cases hg'
  rw [ha] at hn
  cases hn
theorem run_val {e : Int} {j' : Jb} (R : RA h col r st) (hi : i < st.T.length) (hj : st.j[i]? = some (some j)) (he : jRunE j = e) (hj' : jRun j = j') (hQ : ∀ h' col', RA h' col' r { st with j := st.j.set i (some j') } → Q (.int .i64 e) h') : VD fs ms f_room_Room_Run [.ptr r 0, .int .i64 ((i : Nat) : Int)] h Q := by
 subst he
 subst hj'
 refine rmrun_c R (fun h => (h (ofE_some hi hj)).elim) (fun i' j' hi' hj' h' col' R' _ => ?_)
 obtain rfl : i = i' := by omega
 rw [hj] at hj'; cases hj'
 exact hQ h' col' R'
theorem did_val {e : Int} {j' : Jb} (R : RA h col r st) (hi : i < st.T.length) (hj : st.j[i]? = some (some j)) (he : jDidE j = e) (hj' : jDid j = j') (hQ : ∀ h' col', RA h' col' r { st with j := st.j.set i (some j') } → Q (.int .i64 e) h') : VD fs ms f_room_Room_Did [.ptr r 0, .int .i64 ((i : Nat) : Int)] h Q := by
 subst he
 subst hj'
 refine rmdid_c R (fun h => (h (ofE_some hi hj)).elim) (fun i' j' hi' hj' h' col' R' _ => ?_)
 obtain rfl : i = i' := by omega
 rw [hj] at hj'; cases hj'
 exact hQ h' col' R'
theorem lock_val {x : Int} {j' : Jb} (R : RA h col r st) (hL : st.L.length ≤ 900) (hi : i < st.T.length) (hj : st.j[i]? = some (some j)) (hs : j.s < 2) (hz : lockE st.T st.L i x = 0) (hj' : jLk j = j') (hQ : ∀ h' col', RA h' col' r { st with L := st.L ++ [(((i : Nat) : Int), x)], j := st.j.set i (some j') } → Q (.int .i64 0) h') :
  VD fs ms f_room_Room_Lock [.ptr r 0, .int .i64 ((i : Nat) : Int), .int .i64 x] h Q := by
 subst hj'
 refine rmlock_c R hL (fun h => (h (ofE_some hi hj)).elim) (fun i' j' hi' hj' hs' => ?_) (fun i' j' hi' hj' _ hn => (hn hz).elim) (fun i' j' hi' hj' _ _ h' col' R' _ => ?_)
 all_goals (obtain rfl : i = i' := by omega); rw [hj] at hj'; cases hj'
 ·omega
 ·exact hQ h' col' R'
theorem unlock_val {m : Nat} {j' : Jb} (R : RA h col r st) (hL : st.L.length ≤ 900) (hi : i < st.T.length) (hj : st.j[i]? = some (some j)) (hz : unlE st.T st.L i = 0) (hm : lastI st.L i = ((m : Nat) : Int)) (hj' : jUnl (st.L.eraseIdx m) i j = j')
  (hQ : ∀ h' col', RA h' col' r { st with L := st.L.eraseIdx m, j := st.j.set i (some j') } → Q (.int .i64 0) h') : VD fs ms f_room_Room_Unlock [.ptr r 0, .int .i64 ((i : Nat) : Int)] h Q := by
 subst hj'
 refine rmunlock_c R hL (fun h => (h (ofE_some hi hj)).elim) (fun i' j' hi' hj' hn => (hn hz).elim) (fun i' j' hi' hj' _ m' _ hm' h' col' R' _ => ?_)
 obtain rfl : i = i' := by omega
 obtain rfl : m = m' := by omega
 rw [hj] at hj'; cases hj'
 exact hQ h' col' R'
theorem end_val (R : RA h col r st) (hL : st.L.length ≤ 900) (hi : i < st.T.length) (hj : st.j[i]? = some (some j)) (hQ : ∀ h' col', RA h' col' r { st with L := dropL st.L i, j := st.j.set i none } → Q (.bool true) h') : VD fs ms f_room_Room_End [.ptr r 0, .int .i64 ((i : Nat) : Int)] h Q := by
 refine rmend_c R hL (fun h => (h (ofE_some hi hj)).elim) (fun i' j' hi' hj' h' col' R' _ => ?_)
 obtain rfl : i = i' := by omega
 exact hQ h' col' R'
theorem fst_uniq {js : Js} {i i' : Nat} {j j' : Jb} (F : FstJ js i j) (F' : FstJ js i' j') : i = i' := by
 by_cases e : i = i'
 ·exact e
 ·have := ah_tot (a := (i', j'.e)) (b := (i, j.e)) (fun h => e h.symm) (F.2 i' j' F'.1)
  rw [F'.2 i j F.1] at this
  cases this
theorem who_one (R : RA h col r st) (hL : st.L.length ≤ 900) (hs : ∀ (i : Nat) (j : Jb), st.j[i]? = some (some j) → j.s < 2) (F : FstJ st.j i j) (hc : j.g = true ∨ lvl st.T i > ceilF st.T st.L) (hQ : Q (.bool true) h) : VD fs ms f_escapementlaw18_who [.ptr r 0, .int .i64 ((i : Nat) : Int)] h Q := by
 refine vd_start (af := C_escapementlaw18_who) true rfl (yB rfl) ?_
 conv => whnf
 refine rmwho_c R hL (fun i' j' hj' h2 => ?_) (fun hno => (hno i j F.1).elim) (fun _ i' j' F' _ => ?_) (fun _ i' j' F' hg hl => ?_)
 ·have := hs i' j' hj'; omega
 ·obtain rfl := fst_uniq F F'
  conv => whnf
  refine brt (by simp) (fun hc => ?_)
  (try rw [hc])
  conv => whnf
  exact hQ
 ·obtain rfl := fst_uniq F F'
  obtain rfl : j = j' := hasJ.eq F.1 F'.1
  rcases hc with h | h
  ·rw [h] at hg; cases hg
  ·exact (hl h).elim
theorem who_two {t : Nat} (R : RA h col r st) (hL : st.L.length ≤ 900) (hs : ∀ (i : Nat) (j : Jb), st.j[i]? = some (some j) → j.s < 2) (F : FstJ st.j i j) (hc : j.g = false) (hc2 : ¬ lvl st.T i > ceilF st.T st.L) (ht : topL st.L = (((t : Nat) : Int), true)) (hQ : Q (.bool true) h) : VD fs ms f_escapementlaw18_who [.ptr r 0, .int .i64 ((t : Nat) : Int)] h Q := by
 refine vd_start (af := C_escapementlaw18_who) true rfl (yB rfl) ?_
 conv => whnf
 refine rmwho_c R hL (fun i' j' hj' h2 => ?_) (fun hno => (hno i j F.1).elim) (fun _ i' j' F' h => ?_) (fun _ i' j' F' hg hl => ?_)
 ·have := hs i' j' hj'; omega
 ·obtain rfl := fst_uniq F F'
  obtain rfl : j = j' := hasJ.eq F.1 F'.1
  rcases h with h | h
  ·rw [h] at hc; cases hc
  ·exact (hc2 h).elim
 ·rw [ht]
  conv => whnf
  refine brt (by simp) (fun hc => ?_)
  (try rw [hc])
  conv => whnf
  exact hQ
end
def wT0 : Tk := ⟨20, 10, 4, 1, 1, 0, 0, 0⟩
def wT1 : Tk := ⟨30, 20, 6, 1, 3, 0, 0, 0⟩
def wLong : List Op := [⟨2, 0, []⟩, ⟨1, 3, []⟩, ⟨3, 0, []⟩, ⟨1, 3, []⟩]
def wRun : List Op := [⟨1, 2, []⟩]
theorem fr_deln {h H : Heap} {b : Nat} (f : Fr h H []) (hb : h.next ≤ b) : Fr h (delAll [b] H) [] := by
 refine ⟨f.next, fun c hc _ => ?_⟩
 show (H.del b).get c = _
 rw [get_del_ne (by omega)]
 exact f.keep c hc (by simp)
theorem frz_new {h : Heap} {s : Nat} {l : List AV} {vs : List AV} (hs : allSize s l = true) (hc : clL l = true) (hv : vs = flatCells l) : Frz (· ∈ [h.next]) (h.new (.cells vs true 0)) (.sl h.next 0 l.length l.length false) (.fz 0 l) :=
 frz_pre (by simp) get_new_same (by rw [hv, List.append_nil]) hs rfl (Nat.le_refl _) hc
theorem two_get {js : Js} {a b : Option Jb} (e : js = [a, b]) (i : Nat) (j : Jb) (h : js[i]? = some (some j)) : (i = 0 ∧ a = some j) ∨ (i = 1 ∧ b = some j) := by
 subst e
 match i, h with
 | 0, h => exact .inl ⟨rfl, Option.some.inj h⟩
 | 1, h => exact .inr ⟨rfl, Option.some.inj h⟩
 | n + 2, h => cases h
theorem two_s {js : Js} {a b : Option Jb} (e : js = [a, b]) (h : (a.map Jb.s).getD 0 < 2 ∧ (b.map Jb.s).getD 0 < 2) (i : Nat) (j : Jb) (hj : js[i]? = some (some j)) : j.s < 2 := by
 rcases two_get e i j hj with ⟨_, rfl⟩ | ⟨_, rfl⟩
 ·exact h.1
 ·exact h.2
theorem fst_0 {js : Js} {a : Jb} {b : Option Jb} (e : js = [some a, b]) (h : ah (0, a.e) (0, a.e) = false ∧ ah (1, (b.map Jb.e).getD 0) (0, a.e) = false) : FstJ js 0 a := by
 refine ⟨by rw [e]; rfl, fun i j hj => ?_⟩
 rcases two_get e i j hj with ⟨rfl, h1⟩ | ⟨rfl, rfl⟩
 ·cases h1; exact h.1
 ·exact h.2
theorem fst_1 {js : Js} {b : Jb} (e : js = [none, some b]) (h : ah (1, b.e) (1, b.e) = false) : FstJ js 1 b := by
 refine ⟨by rw [e]; rfl, fun i j hj => ?_⟩
 rcases two_get e i j hj with ⟨rfl, h1⟩ | ⟨rfl, h1⟩
 ·cases h1
 ·cases h1; exact h
def wS0 : St := ⟨[wT0, wT1], [], [none, none], [0, 0]⟩
def wj1 (l : List Op) (n s k : Int) : Jb := ⟨wT1, l, 20, n, s, k, 0, true⟩
def wj0 : Jb := ⟨wT0, wRun, 11, 0, 0, 0, 0, false⟩
def wSt (L : List En) (a b : Option Jb) (g : Int) : St := ⟨[wT0, wT1], L, [a, b], [g, 30]⟩
theorem works18_c : PC fs ms f_escapementlaw18_works [] (.bool true) := by
 refine pc_of rfl rfl ?_
 refine vd_begin (af := C_escapementlaw18_works) rfl (yB rfl) ?_
 generalize hQ : (fun (v : AV) (_ : Heap) => v = .bool true) = Q
 conv => whnf
 refine vc_seq true ?_
 conv => whnf
 refine vc_seq true ?_
 conv => whnf
 refine vc_slots 3 [(1, .sl 0 0 2 2 false)] ⟨rfl, trivial⟩ (vc_frz [0] (i := 1) (v' := .fz 0 (tks [wT0, wT1])) rfl (frz_new (h := ⟨0, .nil⟩) (s := 8) (l := tks [wT0, wT1]) rfl rfl rfl) ?_)
 refine vc_slots 3 [(1, .fz 0 (tks [wT0, wT1]))] ⟨rfl, trivial⟩ ?_
 generalize delAll [0] _ = h1
 refine vc_seq true ?_
 conv => whnf
 refine rmnew_c (col := fun _ => 0) 0 [wT0, wT1] (fun h => by cases h) (by decide) (fun hn => (hn (by decide)).elim) (fun _ h2 col2 r R0 _ => ?_)
 conv => whnf
 refine vc_seqV (vpC_sound (z := true) ?_)
 conv => whnf
 refine vc_seq true ?_
 conv => whnf
 refine vc_seq true ?_
 conv => whnf
 have R0 : RA h2 col2 r wS0 := R0
 have fr0 : Fr h2 ((h2.new (.cells (flatCells (ops wLong)) true 0)).new (.cells (flatCells (ops wRun)) true 0)) [] := (Fr.refl h2 []).new.new
 have R1 := R0.nil (fr_deln (b := h2.next) (fr_deln (b := h2.next + 1) fr0 (Nat.le_succ _)) (Nat.le_refl _))
 have gA : (delAll [h2.next + 1] ((h2.new (.cells (flatCells (ops wLong)) true 0)).new (.cells (flatCells (ops wRun)) true 0))).get h2.next = some (.cells (flatCells (ops wLong)) true 0) := by
  show (Heap.del _ _).get _ = _
  rw [get_del_ne (by omega), get_new_ne (Nat.lt_succ_self _)]
  exact get_new_same
 show VC fs ms _ _ _ _ ((h2.new (.cells (flatCells (ops wLong)) true 0)).new (.cells (flatCells (ops wRun)) true 0)) _
 refine vc_slots 3 [(2, .ptr r 0), (4, .sl h2.next 0 4 4 false), (5, .sl (h2.next + 1) 0 1 1 false)] ⟨rfl, rfl, rfl, trivial⟩ ?_
 refine vc_frz [h2.next + 1] (i := 5) (v' := .fz 0 (ops wRun)) rfl (frz_new (h := h2.new (.cells (flatCells (ops wLong)) true 0)) (s := 3) (l := ops wRun) rfl rfl rfl) ?_
 refine vc_frz [h2.next] (i := 4) (v' := .fz 0 (ops wLong)) rfl (frz_pre (s := 3) (rest := []) (by simp) gA rfl rfl rfl (Nat.le_refl _) rfl) ?_
 refine vc_slots 3 [(2, .ptr r 0), (4, .fz 0 (ops wLong)), (5, .fz 0 (ops wRun))] ⟨rfl, rfl, rfl, trivial⟩ ?_
 generalize delAll [h2.next] _ = h3 at *
 refine vc_seq true ?_
 conv => whnf
 refine rel_ok (i := 1) (tk0 := wT1) (n := 0) R1 (fun h => by cases h) (by decide) rfl rfl rfl rfl rfl fun h4 c4 R4 => ?_
 conv => whnf
 refine who_one (i := 1) R4 (by decide) (two_s rfl (by decide)) (fst_1 rfl (by decide)) (.inr (by decide)) ?_
 conv => whnf
 refine lock_val (i := 1) R4 (by decide) (by decide) rfl (by decide) (by decide) rfl fun h5 c5 R5 => ?_
 conv => whnf
 refine did_val (i := 1) (e := 0) R5 (by decide) rfl rfl rfl fun h6 c6 R6 => ?_
 conv => whnf
 replace R6 : RA h6 c6 r (wSt [(1, 0)] none (some (wj1 [⟨1, 3, []⟩, ⟨3, 0, []⟩, ⟨1, 3, []⟩] 0 1 0)) 0) := R6
 refine vc_seq true ?_
 conv => whnf
 refine rel_ok (i := 0) (tk0 := wT0) (n := 0) R6 (fun h => by cases h) (by decide) rfl rfl rfl rfl rfl fun h7 c7 R7 => ?_
 replace R7 : RA h7 c7 r (wSt [(1, 0)] (some wj0) (some (wj1 [⟨1, 3, []⟩, ⟨3, 0, []⟩, ⟨1, 3, []⟩] 0 1 0)) 21) := R7
 conv => whnf
 refine who_two (i := 0) (t := 1) R7 (by decide) (two_s rfl (by decide)) (fst_0 rfl (by decide)) rfl (by decide) rfl ?_
 conv => whnf
 refine vc_seq true ?_
 conv => whnf
 refine run_val (i := 1) (e := 0) (j' := wj1 [⟨1, 2, []⟩, ⟨3, 0, []⟩, ⟨1, 3, []⟩] 1 1 1) R7 (by decide) rfl rfl rfl fun h8 c8 R8 => ?_
 replace R8 : RA h8 c8 r (wSt [(1, 0)] (some wj0) (some (wj1 [⟨1, 2, []⟩, ⟨3, 0, []⟩, ⟨1, 3, []⟩] 1 1 1)) 21) := R8
 conv => whnf
 refine run_val (i := 1) (e := 0) (j' := wj1 [⟨1, 1, []⟩, ⟨3, 0, []⟩, ⟨1, 3, []⟩] 2 1 2) R8 (by decide) rfl rfl rfl fun h9 c9 R9 => ?_
 replace R9 : RA h9 c9 r (wSt [(1, 0)] (some wj0) (some (wj1 [⟨1, 1, []⟩, ⟨3, 0, []⟩, ⟨1, 3, []⟩] 2 1 2)) 21) := R9
 conv => whnf
 refine run_val (i := 1) (e := 0) (j' := wj1 [⟨3, 0, []⟩, ⟨1, 3, []⟩] 3 1 3) R9 (by decide) rfl rfl rfl fun h10 c10 R10 => ?_
 replace R10 : RA h10 c10 r (wSt [(1, 0)] (some wj0) (some (wj1 [⟨3, 0, []⟩, ⟨1, 3, []⟩] 3 1 3)) 21) := R10
 conv => whnf
 refine unlock_val (i := 1) (m := 0) (j' := wj1 [⟨3, 0, []⟩, ⟨1, 3, []⟩] 3 0 0) R10 (by decide) (by decide) rfl (by decide) (by decide) rfl fun h11 c11 R11 => ?_
 replace R11 : RA h11 c11 r (wSt [] (some wj0) (some (wj1 [⟨3, 0, []⟩, ⟨1, 3, []⟩] 3 0 0)) 21) := R11
 conv => whnf
 refine did_val (i := 1) (e := 0) (j' := wj1 [⟨1, 3, []⟩] 3 0 0) R11 (by decide) rfl rfl rfl fun h12 c12 R12 => ?_
 replace R12 : RA h12 c12 r (wSt [] (some wj0) (some (wj1 [⟨1, 3, []⟩] 3 0 0)) 21) := R12
 conv => whnf
 refine who_one (i := 0) R12 (by decide) (two_s rfl (by decide)) (fst_0 rfl (by decide)) (.inr (by decide)) ?_
 conv => whnf
 refine vc_seq true ?_
 conv => whnf
 refine rel_busy (i := 0) R12 (fun h => by cases h) (by decide) (by decide) rfl ?_
 conv => whnf
 refine end_val (i := 0) R12 (by decide) (by decide) rfl fun h13 c13 R13 => ?_
 replace R13 : RA h13 c13 r (wSt [] none (some (wj1 [⟨1, 3, []⟩] 3 0 0)) 21) := R13
 conv => whnf
 refine rel_early (i := 0) (tk0 := wT0) (n := 21) R13 (fun h => by cases h) (by decide) rfl rfl rfl rfl rfl fun h14 c14 R14 => ?_
 conv => whnf
 refine rel_ok (i := 0) (tk0 := wT0) (n := 21) R14 (fun h => by cases h) (by decide) rfl rfl rfl rfl rfl fun h15 c15 R15 => ?_
 conv => whnf
 refine vpC_sound (z := true) ?_
 conv => whnf
 subst hQ
 rfl
def nz (l : List Nat) : List Int := l.map fun x : Nat => (x : Int)
theorem nz_len (l : List Nat) : (nz l).length = l.length := by simp [nz]
structure PAt (h : Heap) (col : Nat → Nat) (p r k : Nat) (T : List Tk) (now : Int) (o : List Nat) (ov : AV) : Prop where
 lt : p < h.next
 co : col p = 200
 get : h.get p = some (.cells [.ptr r 0, .fz k (tks T), .int .i64 now, ov] true 0)
 row : (o = [] ∧ ov = .nils) ∨ ∃ b, ov = .sl b 0 o.length o.length true ∧ b < h.next ∧ col b = 201 ∧ h.get b = some (.cells (ints (nz o)) true 1)
section
variable {h h' : Heap} {col col' : Nat → Nat} {p r k : Nat} {T : List Tk} {now : Int} {o : List Nat} {ov : AV} {Q : AV → Heap → Prop} {st : St}
theorem PAt.keep {K : Nat → Prop} (P : PAt h col p r k T now o ov) (f : Kc h h' col col' K) (h1 : ¬ K 200) (h2 : ¬ K 201) : PAt h' col' p r k T now o ov := by
 refine ⟨Nat.lt_of_lt_of_le P.lt f.next, (f.col p P.lt).trans P.co, (f.keep p P.lt (by rw [P.co]; exact h1)).trans P.get, ?_⟩
 rcases P.row with h | ⟨b, a1, a2, a3, a4⟩
 ·exact .inl h
 ·exact .inr ⟨b, a1, Nat.lt_of_lt_of_le a2 f.next, (f.col b a2).trans a3, (f.keep b a2 (by rw [a3]; exact h2)).trans a4⟩
theorem PAt.nil (P : PAt h col p r k T now o ov) (f : Fr h h' []) : PAt h' col p r k T now o ov := P.keep (K := fun _ => False) (Kc.same f) id id
theorem PAt.rk (P : PAt h col p r k T now o ov) (f : Kc h h' col col' RK) : PAt h' col' p r k T now o ov := P.keep f (fun h => by have := h.2; omega) (fun h => by have := h.2; omega)
theorem RA.pk {K : Nat → Prop} (R : RA h col r st) (f : Kc h h' col col' K) (hK : ∀ n, K n → 200 ≤ n) : RA h' col' r st :=
 R.keep f (fun n h1 h2 h => by have := hK n h; omega) (fun i hi h => by have := hK _ h; omega)
theorem PAt.len (P : PAt h col p r k T now o ov) : pV .lenS [ov] = some (.int .i64 ((o.length : Nat) : Int)) := by
 rcases P.row with ⟨rfl, rfl⟩ | ⟨b, rfl, _⟩ <;> rfl
theorem PAt.at (P : PAt h col p r k T now o ov) {i : Nat} (hi : i < o.length) : ∃ b, pV (.iaddrS 1) [ov, .int .i64 ((i : Nat) : Int)] = some (.ptr b (i * 1)) ∧ rV .load1 [.ptr b (i * 1)] h = some (.int .i64 ((o[i] : Nat) : Int)) := by
 rcases P.row with ⟨h, _⟩ | ⟨b, rfl, a2, a3, a4⟩
 ·rw [h] at hi; simp at hi
 ·refine ⟨b, idx_slS3 hi, ld1 a4 ?_⟩
  rw [Nat.mul_one, ints, nz, List.map_map, List.getElem?_map, List.getElem?_eq_getElem hi]
  rfl
theorem norun_c {i : Nat} {j : Jb} (R : RA h col r st) (hj : hasJ st.j i j) (hlt : i < st.T.length) (hQ : ∀ h', Fr h h' [] → Q (.bool (!rowR j.l)) h') : VD fs ms f_escapementlaw18_noRun [.ptr r 0, .int .i64 ((i : Nat) : Int)] h Q := by
 refine vd_start (af := C_escapementlaw18_noRun) true rfl (yB rfl) ?_
 conv => whnf
 refine rnext_c R (fun hn => (hn (ofE_some hlt hj)).elim) (fun n jn ht hjn h1 fr1 => ?_)
 have hni : n = i := by omega
 subst hni
 have hjj : j = jn := hasJ.eq (js := st.j) hj hjn
 subst hjj
 conv => whnf
 refine eff_o (sto_o get_new_same rfl (Nat.le_refl _) rfl) fun h2 e2 => ?_
 have fr2 : Fr h h2 [] := by rw [e2]; exact (fr1.new (x := _)).setn fr1.next
 have g2 : h2.get h1.next = some (.cells (op (j.l.headD opZ)).cells true 0) := by rw [e2]; exact get_set_same
 clear e2
 conv => whnf
 cases hl : j.l with
 | nil =>
  rw [hl] at hQ
  conv => whnf
  exact hQ _ fr2
 | cons x l =>
  rw [hl] at hQ g2
  conv => whnf
  refine ⟨_, ld1 g2 rfl, ?_⟩
  conv => whnf
  exact hQ _ fr2
end
section
variable {h h' h0 : Heap} {col col' : Nat → Nat} {p r k : Nat} {T : List Tk} {now : Int} {o : List Nat} {ov : AV} {st : St}
def goneL (o : List Nat) (t : Nat) : List Nat := o.filter fun x => !(x == t)
theorem gone_next {i t : Nat} (hi : i < o.length) : goneL (o.take (i + 1)) t = goneL (o.take i) t ++ (if o[i] = t then [] else [o[i]]) := by
 rw [goneL, take_next hi, List.filter_append]
 congr 1
 by_cases e : o[i] = t <;> simp [e]
theorem gone_l {t B : Nat} {Q : AX → Env → Heap → Prop} (P : PAt h0 col p r k T now o ov) (hl : o.length ≤ 1000) (hQ : ∀ h v e, IRow h0.next h v (nz (goneL o t)) → Fr h0 h [] → AllAt e [(0, .ptr p 0), (4, v)] → Q (.exit 0) e h) :
  ∀ (m i : Nat) (h : Heap) (v : AV) (env : Env), o.length - i = m → i ≤ o.length → IRow h0.next h v (nz (goneL (o.take i) t)) → Fr h0 h [] →
   AllAt env [(0, .ptr p 0), (1, .int .i64 ((t : Nat) : Int)), (4, v), (5, .int .i64 ((i : Nat) : Int))] → VC fs ms B false (.loop L_escapementlaw18_play_gone_0) env h Q := by
 intro m
 induction m using Nat.strongRecOn with
 | ind m ih =>
 intro i h v env hm hi hr fr henv
 have P1 := P.nil fr
 refine vc_slots 5 _ henv ?_
 refine vc_loop (z := true) ?_
 conv => whnf
 refine ⟨_, ld1 P1.get rfl, ?_⟩
 conv => whnf
 refine opt_go P1.len ?_
 conv => whnf
 refine br (fun hc => ?_) (fun hc => ?_) <;> (try rw [hc]) <;> (conv => whnf)
 ·have hlt : i < o.length := by have := of_decide_eq_true hc; omega
  obtain ⟨b, a1, a2⟩ := P1.at hlt
  repeat (first | (refine ⟨_, ld1 P1.get rfl, ?_⟩; conv => whnf))
  refine ⟨_, a1, ?_⟩
  conv => whnf
  refine ⟨_, a2, ?_⟩
  conv => whnf
  have hnx := gone_next (t := t) hlt
  refine br (fun hc => ?_) (fun hc => ?_) <;> (try rw [hc]) <;> (conv => whnf)
  ·have hne : o[i] ≠ t := by
    intro e
    rw [e] at hc
    simp at hc
   rw [if_neg hne] at hnx
   repeat (first | (refine ⟨_, ld1 P1.get rfl, ?_⟩; conv => whnf))
   refine ⟨_, a1, ?_⟩
   conv => whnf
   refine ⟨_, a2, ?_⟩
   conv => whnf
   have hlen : (nz (goneL (o.take i) t)).length ≤ 1048576 := by
    rw [nz_len]
    have : (goneL (o.take i) t).length ≤ (o.take i).length := List.length_filter_le ..
    rw [List.length_take] at this
    omega
   obtain ⟨v', g', b1, b2, b3, b4, b5⟩ := hr.app fr.next hlen ((o[i] : Nat) : Int)
   refine ⟨_, _, b1, ?_⟩
   conv => whnf
   refine ih (o.length - (i + 1)) (by omega) (i + 1) _ _ _ rfl (by omega) (by rw [hnx, nz, List.map_append]; exact b2) ⟨Nat.le_trans fr.next b3, fun c hc _ => (b4 c (Nat.lt_of_lt_of_le hc fr.next) (hr.off (.inl hc))).trans (fr.keep c hc (by simp))⟩ ⟨rfl, rfl, rfl, inc_slot (by omega), trivial⟩
  ·have he : o[i] = t := by
    simp at hc
    omega
   rw [if_pos he, List.append_nil] at hnx
   exact ih (o.length - (i + 1)) (by omega) (i + 1) _ _ _ rfl (by omega) (by rw [hnx]; exact hr) fr ⟨rfl, rfl, rfl, inc_slot (by omega), trivial⟩
 ·have hge : i = o.length := by have := of_decide_eq_false hc; omega
  subst hge
  rw [List.take_length] at hr
  exact hQ _ _ _ hr fr ⟨rfl, rfl, trivial⟩
theorem gone_c {t : Nat} {Q : AV → Heap → Prop} (P : PAt h col p r k T now o ov) (hl : o.length ≤ 1000) (hQ : ∀ h' col' v' w, PAt h' col' p r k T now (goneL o t) v' → Kc h h' col col' (· = 200) → Q w h') : VD fs ms f_escapementlaw18_play_gone [.ptr p 0, .int .i64 ((t : Nat) : Int)] h Q := by
 refine vd_begin (af := C_escapementlaw18_play_gone) rfl (yB rfl) ?_
 conv => whnf
 refine vc_seq true ?_
 conv => whnf
 refine vc_seqV (vc_seq true ?_)
 conv => whnf
 refine vc_block ?_
 refine gone_l P hl ?_ o.length 0 h .nils _ rfl (Nat.zero_le _) (.inl ⟨rfl, rfl⟩) (Fr.refl _ _) ⟨rfl, rfl, rfl, rfl, trivial⟩
 intro h1 v e hr fr he
 refine vc_slots 3 _ he (vpC_sound (z := true) ?_)
 conv => whnf
 have P1 := P.nil fr
 have hv : v.cells = [v] ∧ v.flat = true := by
  rcases hr with ⟨_, rfl⟩ | ⟨b, _, _, rfl, _⟩ <;> exact ⟨rfl, rfl⟩
 refine eff_o (sto_o (o := 0 + 3) (n := 1) P1.get (by rw [hv.1]; rfl) (yB rfl) (by rw [hv.1]; show cond v.flat _ _ = _; rw [hv.2]; rfl)) fun h2 e2 => ?_
 rw [hv.1] at e2
 conv => whnf
 have f1 : Kc h h2 col (cadd col h.next 201) (· = 200) := by
  refine ⟨by rw [e2]; exact fr.next, fun c hc hn => ?_, fun c hc => cadd_old hc⟩
  rw [e2, get_set_ne (by intro e; rw [e, P.co] at hn; exact hn rfl)]
  exact fr.keep c hc (by simp)
 refine hQ h2 (cadd col h.next 201) v _ ⟨by rw [e2]; exact P1.lt, (cadd_old P.lt).trans P.co, by rw [e2]; exact get_set_same, ?_⟩ f1
 rcases hr with ⟨h1', h2'⟩ | ⟨b, a1, a2, a3, a4⟩
 ·left
  refine ⟨?_, h2'⟩
  have := congrArg List.length h1'
  rw [nz_len] at this
  exact List.length_eq_zero_iff.1 this
 ·right
  rw [nz_len] at a3
  refine ⟨b, a3, by rw [e2]; exact a2, cadd_new a1, ?_⟩
  have := P.lt
  rw [e2, get_set_ne (by omega)]
  exact a4
theorem IRow.at' {lo : Nat} {h : Heap} {v : AV} {l : List Int} (hr : IRow lo h v l) {i : Nat} (hi : i < l.length) : ∃ b, pV (.iaddrS 1) [v, .int .i64 ((i : Nat) : Int)] = some (.ptr b (i * 1)) ∧ rV .load1 [.ptr b (i * 1)] h = some (.int .i64 l[i]) := by
 obtain ⟨b, h1, h2⟩ := hr.read.2 i hi
 refine ⟨b, h1, ?_⟩
 rw [h2, List.getD_eq_getElem?_getD, List.getElem?_eq_getElem hi]
 rfl
theorem pheld_in {lo B i : Nat} {x : Int} {v : AV} {l : List Int} {Q : AX → Env → Heap → Prop} (hr : IRow lo h v l) (hl : l.length ≤ 1000)
  (h0 : x ∉ l → ∀ e, AllAt e [(0, .ptr p 0), (1, .int .i64 x), (6, .int .i64 ((i : Nat) : Int))] → Q (.exit 2) e h) (h1 : x ∈ l → ∀ e, AllAt e [(4, .int .i64 ((i : Nat) : Int)), (5, .bool true)] → Q .ret e h) :
  ∀ (m n : Nat) (env : Env), l.length - n = m → n ≤ l.length → x ∉ l.take n → AllAt env [(0, .ptr p 0), (1, .int .i64 x), (6, .int .i64 ((i : Nat) : Int)), (7, v), (8, .int .i64 ((n : Nat) : Int))] →
   VC fs ms B false (.loop L_escapementlaw18_play_held_1) env h Q := by
 intro m
 induction m using Nat.strongRecOn with
 | ind m ih =>
 intro n env hm hn hno henv
 refine vc_slots 4 _ henv ?_
 refine vc_loop (z := true) ?_
 conv => whnf
 refine opt_go hr.read.1 ?_
 conv => whnf
 refine br (fun hc => ?_) (fun hc => ?_) <;> (try rw [hc]) <;> (conv => whnf)
 ·have hlt : n < l.length := by have := of_decide_eq_true hc; omega
  obtain ⟨b, a1, a2⟩ := IRow.at' hr hlt
  refine ⟨_, a1, ?_⟩
  conv => whnf
  refine ⟨_, a2, ?_⟩
  conv => whnf
  refine br (fun hc => ?_) (fun hc => ?_) <;> (try rw [hc]) <;> (conv => whnf)
  ·exact h1 (by rw [← eq_of_beq hc]; exact List.getElem_mem hlt) _ ⟨rfl, rfl, trivial⟩
  ·refine ih (l.length - (n + 1)) (by omega) (n + 1) _ rfl (by omega) ?_ ⟨rfl, rfl, rfl, rfl, inc_slot (by omega), trivial⟩
   rw [take_next hlt, List.mem_append, List.mem_singleton]
   rintro (h | h)
   ·exact hno h
   ·rw [← h] at hc; simp at hc
 ·have hge : n = l.length := by have := of_decide_eq_false hc; omega
  rw [hge, List.take_length] at hno
  exact h0 hno _ ⟨rfl, rfl, rfl, trivial⟩
set_option smartUnfolding true in
theorem endV_two {a b : Nat} {u v : AV} {e : Env} {h : Heap} {Q : AV → Heap → Prop} (h1 : Tr.get e a = some u) (h2 : Tr.get e b = some v) (hq : Q (.tup [u, v]) h) : endV [.tmp a, .tmp b] Q .ret e h := by
 simp only [endV, resAllV, resOfV, h1, h2]
 exact hq
theorem rheld_any {i : Nat} {Q : AV → Heap → Prop} (R : RA h col r st) (hL : st.L.length ≤ 1000) (hi : i < st.T.length)
  (hQ : ∀ h' v l, IRow h.next h' v l → Fr h h' [] → (∀ x, x ∈ l ↔ ∃ j, hasJ st.j i j ∧ x ∈ heldL st.L i) → l.length ≤ st.L.length → (∀ j, hasJ st.j i j → l = heldL st.L i) → Q v h') : VD fs ms f_room_Room_Held [.ptr r 0, .int .i64 ((i : Nat) : Int)] h Q := by
 refine rheld_c R hL (fun hn => ?_) (fun n j ht hj h' v hr fr => ?_)
 ·refine hQ h .nils [] (.inl ⟨rfl, rfl⟩) (Fr.refl _ _) (fun x => ⟨fun h => by simp at h, fun ⟨j, hj, _⟩ => (hn (ofE_some hi hj)).elim⟩) (Nat.zero_le _) (fun j hj => (hn (ofE_some hi hj)).elim)
 ·have : n = i := by omega
  subst this
  exact hQ h' v _ hr fr (fun x => ⟨fun h => ⟨j, hj, h⟩, fun ⟨_, _, h⟩ => h⟩) (held_len _ _) (fun _ _ => rfl)
theorem pheld_l {B : Nat} {x : Int} {Q : AX → Env → Heap → Prop} (P : PAt h0 col p r k st.T now o ov) (R : RA h0 col r st) (hL : st.L.length ≤ 1000) (hT : st.T.length ≤ 4)
  (q0 : (∀ (i : Nat) (j : Jb), i < st.T.length → hasJ st.j i j → x ∉ heldL st.L i) → ∀ h e, Fr h0 h [] → Q (.exit 0) e h)
  (q1 : ∀ (i : Nat) (j : Jb), i < st.T.length → hasJ st.j i j → x ∈ heldL st.L i → ∀ h e, Fr h0 h [] → AllAt e [(4, .int .i64 ((i : Nat) : Int)), (5, .bool true)] → Q .ret e h) :
  ∀ (m i : Nat) (h : Heap) (env : Env), st.T.length - i = m → i ≤ st.T.length → Fr h0 h [] → (∀ (n : Nat) (j : Jb), n < i → hasJ st.j n j → x ∉ heldL st.L n) →
   AllAt env [(0, .ptr p 0), (1, .int .i64 x), (6, .int .i64 ((i : Nat) : Int))] → VC fs ms B false (.loop L_escapementlaw18_play_held_0) env h Q := by
 intro m
 induction m using Nat.strongRecOn with
 | ind m ih =>
 intro i h env hm hi fr hno henv
 have P1 := P.nil fr
 have R1 := R.nil fr
 refine vc_slots 3 _ henv ?_
 refine vc_loopV (vc_seq true ?_)
 conv => whnf
 repeat (first | (refine ⟨_, ld1 P1.get rfl, ?_⟩; conv => whnf))
 rw [len_tks]
 refine br (fun hc => ?_) (fun hc => ?_) <;> (try rw [hc]) <;> (conv => whnf)
 ·have hlt : i < st.T.length := by have := of_decide_eq_true hc; omega
  refine vc_seqV (vc_block (vc_seq true ?_))
  conv => whnf
  repeat (first | (refine ⟨_, ld1 P1.get rfl, ?_⟩; conv => whnf))
  refine rheld_any R1 hL hlt fun h1 v l hr fr1 hx hl _ => ?_
  conv => whnf
  refine vc_seq true ?_
  conv => whnf
  refine vc_block ?_
  refine pheld_in (x := x) (i := i) hr (by omega) (fun hn e he => ?_) (fun hn e he => ?_) l.length 0 _ rfl (Nat.zero_le _) (by simp) ⟨rfl, rfl, rfl, rfl, rfl, trivial⟩
  ·show VC fs ms _ _ _ _ _ _
   refine vc_slots 3 _ he (vpC_sound (z := true) ?_)
   conv => whnf
   refine ih (st.T.length - (i + 1)) (by omega) (i + 1) _ _ rfl (by omega) (fr.trans fr1) (fun n j hn' hj => ?_) ⟨rfl, rfl, inc_slot (by omega), trivial⟩
   by_cases e : n = i
   ·subst e
    exact fun h => hn ((hx x).2 ⟨j, hj, h⟩)
   ·exact hno n j (by omega) hj
  ·obtain ⟨j, hj, h⟩ := (hx x).1 hn
   exact q1 i j hlt hj h _ _ (fr.trans fr1) he
 ·have hge : i = st.T.length := by have := of_decide_eq_false hc; omega
  exact q0 (fun n j hn hj => hno n j (by omega) hj) _ _ fr
theorem pheld_c {x : Int} {Q : AV → Heap → Prop} (P : PAt h col p r k st.T now o ov) (R : RA h col r st) (hL : st.L.length ≤ 1000) (hT : st.T.length ≤ 4)
  (q0 : (∀ (i : Nat) (j : Jb), i < st.T.length → hasJ st.j i j → x ∉ heldL st.L i) → ∀ h', Fr h h' [] → Q (.tup [.int .i64 0, .bool false]) h')
  (q1 : ∀ (i : Nat) (j : Jb), i < st.T.length → hasJ st.j i j → x ∈ heldL st.L i → ∀ h', Fr h h' [] → Q (.tup [.int .i64 ((i : Nat) : Int), .bool true]) h') :
  VD fs ms f_escapementlaw18_play_held [.ptr p 0, .int .i64 x] h Q := by
 refine vd_begin (af := C_escapementlaw18_play_held) rfl (yB rfl) ?_
 conv => whnf
 refine vc_seq true ?_
 conv => whnf
 refine vc_seqV (vc_seq true ?_)
 conv => whnf
 refine vc_block ?_
 refine pheld_l P R hL hT (fun hn h1 e fr => ?_) (fun i j hi hj hx h1 e fr he => ?_) st.T.length 0 _ _ rfl (Nat.zero_le _) (Fr.refl _ _) (fun n j hn => by omega) ⟨rfl, rfl, rfl, trivial⟩
 ·refine vc_slots 0 [] trivial (vpC_sound (z := true) ?_)
  conv => whnf
  exact q0 hn _ fr
 ·exact endV_two he.1 he.2.1 (q1 i j hi hj hx _ fr)
end
structure Pl (h : Heap) (col : Nat → Nat) (p r k : Nat) (st : St) (now : Int) (R : List Nat) (o : List Nat) : Prop where
 at' : ∃ ov, PAt h col p r k st.T now o ov
 room : RA h col r st
 inv : Inv st.T st.j st.L now R o
def PK (n : Nat) : Prop := RK n ∨ n = 200 ∨ n = 201 ∨ n = 300
def opR : Op := ⟨1, 64, []⟩
theorem Pl.nil {h h' : Heap} {col : Nat → Nat} {p r k : Nat} {st : St} {now : Int} {R o : List Nat} (P : Pl h col p r k st now R o) (f : Fr h h' []) : Pl h' col p r k st now R o :=
 ⟨P.at'.imp fun _ a => a.nil f, P.room.nil f, P.inv⟩
section
variable {h h' h0 : Heap} {col col' : Nat → Nat} {p r k : Nat} {now : Int} {R o : List Nat} {st : St} {Q : AV → Heap → Prop}
set_option smartUnfolding true in
theorem endV_one {t : Nat} {e : Env} {h : Heap} {Q : AV → Heap → Prop} {v : AV} (hg : Tr.get e t = some v) (hq : Q v h) : endV [.tmp t] Q .ret e h := by
 simp only [endV, resAllV, resOfV, hg]
 exact hq
theorem rem_nn {x n : Int} (h : 0 ≤ x) (hn : 0 < n) : pV (.bin .rem) [.int .i64 x, .int .i64 n] = some (.int .i64 (x % n)) := by
 rw [rem_val _ _ (by omega), Int.tmod_eq_emod_of_nonneg h]
theorem quo_nn {x n : Int} (h : 0 ≤ x) (hx : x < 1048576) (hn : 0 < n) : pV (.bin .quo) [.int .i64 x, .int .i64 n] = some (.int .i64 (x / n)) := by
 rw [quo_val _ _ (by omega), Int.tdiv_eq_ediv_of_nonneg h, IntWalk.i64_in]
 have := Int.ediv_nonneg h (Int.le_of_lt hn)
 have := Int.ediv_le_self n h
 omega
theorem PAt.push {T : List Tk} {ov : AV} (P : PAt h col p r k T now o ov) (hl : o.length ≤ 1000) (a : Nat) : ∃ v' g', eV (.append 1 8) [ov, .sl h.next 0 1 1 false] (h.new (.cells [.int .i64 ((a : Nat) : Int)] true 0)) = some (v', g') ∧ v'.cells = [v'] ∧ v'.flat = true ∧
  g'.get p = some (.cells [.ptr r 0, .fz k (tks T), .int .i64 now, ov] true 0) ∧ ∀ g2, g2 = g'.set p (.cells [.ptr r 0, .fz k (tks T), .int .i64 now, v'] true 0) → PAt g2 (cadd col h.next 201) p r k T now (o ++ [a]) v' ∧ Kc h g2 col (cadd col h.next 201) (fun n => n = 200 ∨ n = 201) := by
 have hsrc : srcV 1 (h.new (.cells [.int .i64 ((a : Nat) : Int)] true 0)) (.sl h.next 0 1 1 false) = some (1, [.int .i64 ((a : Nat) : Int)]) := src_new get_new_same rfl
 have plt := P.lt
 have fin : ∀ (g' : Heap), h.next + 1 < g'.next → g'.get (h.next + 1) = some (.cells (ints (nz (o ++ [a]))) true 1) → (∀ c, c < h.next → col c ≠ 201 → g'.get c = h.get c) →
   g'.get p = some (.cells [.ptr r 0, .fz k (tks T), .int .i64 now, ov] true 0) ∧ ∀ g2, g2 = g'.set p (.cells [.ptr r 0, .fz k (tks T), .int .i64 now, .sl (h.next + 1) 0 (o.length + 1) (o.length + 1) true] true 0) →
    PAt g2 (cadd col h.next 201) p r k T now (o ++ [a]) (.sl (h.next + 1) 0 (o.length + 1) (o.length + 1) true) ∧ Kc h g2 col (cadd col h.next 201) (fun n => n = 200 ∨ n = 201) := by
  intro g' n1 n2 n3
  refine ⟨(n3 p plt (by rw [P.co]; decide)).trans P.get, fun g2 e2 => ⟨⟨by rw [e2]; show p < g'.next; omega, (cadd_old plt).trans P.co, by rw [e2]; exact get_set_same, .inr ⟨h.next + 1, by rw [List.length_append]; rfl, by rw [e2]; exact n1, cadd_new (Nat.le_succ _), ?_⟩⟩, ?_, fun c hc hn => ?_, fun c hc => cadd_old hc⟩⟩
  ·rw [e2, get_set_ne (by omega)]
   exact n2
  ·rw [e2]; show h.next ≤ g'.next; omega
  ·rw [e2, get_set_ne (by intro e; rw [e, P.co] at hn; exact hn (.inl rfl))]
   exact n3 c hc (fun h => hn (.inr h))
 have ei : ints (nz o) ++ [.int .i64 ((a : Nat) : Int)] = ints (nz (o ++ [a])) := by rw [nz, nz, ints, ints, List.map_append, List.map_append]; rfl
 rcases P.row with ⟨h1, h2⟩ | ⟨b, h1, h2, h3, h4⟩
 ·subst h1 h2
  exact ⟨_, _, app_nilsS (nx := h.next + 1) (by omega) hsrc rfl, rfl, rfl, fin _ (Nat.lt_succ_self _) (get_new_same (h := h.new (.cells [.int .i64 ((a : Nat) : Int)] true 0))) (fun c hc _ => (get_new_ne (h := h.new (.cells [.int .i64 ((a : Nat) : Int)] true 0)) (show c < h.next + 1 by omega)).trans (get_new_ne hc))⟩
 ·subst h1
  have hg : (h.new (.cells [.int .i64 ((a : Nat) : Int)] true 0)).get b = some (.cells (ints (nz o)) true 1) := by rw [get_new_ne h2]; exact h4
  refine ⟨_, _, app_full hg (by rw [len_ints, nz_len, Nat.mul_one]) hsrc rfl (by omega) (by omega), rfl, rfl, fin _ (Nat.lt_succ_self _) ?_ (fun c hc hn => ?_)⟩
  ·rw [← ei]
   exact get_new_same (h := (h.new (.cells [.int .i64 ((a : Nat) : Int)] true 0)).del b)
  ·have hne : c ≠ b := by rintro rfl; exact hn h3
   exact (get_new_ne (h := (h.new (.cells [.int .i64 ((a : Nat) : Int)] true 0)).del b) (show c < h.next + 1 by omega)).trans ((get_del_ne hne).trans (get_new_ne hc))
theorem lock131 {T : List Tk} {L : List En} {t r : Int} (h : lockE T L t r = 131) : ∃ x ∈ L, x.2 = r := by
 rw [lockE] at h
 split at h
 ·rename_i h1
  rw [h] at h1
  rw [askE] at h
  split at h <;> cases h
 ·split at h
  ·cases h
  ·split at h
   ·rename_i h3
    obtain ⟨x, hx, h4⟩ := List.any_eq_true.1 h3
    exact ⟨x, hx, eq_of_beq h4⟩
   ·split at h <;> cases h
theorem lock0 {T : List Tk} {L : List En} {t r : Int} (h : lockE T L t r = 0) : uses T t r = true := by
 rw [lockE] at h
 split at h
 ·rename_i h1
  rw [h] at h1
  cases h1
 ·split at h
  ·cases h
  ·rename_i h2
   simpa using h2
theorem nodup_len : ∀ (n : Nat) (l : List Nat), l.Nodup → (∀ x ∈ l, x < n) → l.length ≤ n := pig
set_option smartUnfolding true in
theorem Sk.nodup {T : List Tk} {js : Js} : ∀ {R : List Nat} {L : List En} {o : List Nat}, Sk T js R L o → R.Nodup ∧ o.Nodup
 | [], L, o, h => by rw [h.2]; exact ⟨.nil, .nil⟩
 | a :: R, L, o, ⟨L0, L1, o0, h1, h2, h3, h4, h5, h6, h7⟩ => by
  obtain ⟨n1, n2⟩ := h7.nodup
  refine ⟨List.nodup_cons.2 ⟨h5, n1⟩, ?_⟩
  rw [h2, List.nodup_append]
  refine ⟨n2, by cases L1.isEmpty <;> simp, fun x hx y hy e => ?_⟩
  subst e
  have : x = a := by cases hl : L1.isEmpty <;> rw [hl] at hy <;> simp at hy <;> exact hy
  subst this
  exact h5 (h7.omem x hx)
theorem Inv.olen {T : List Tk} {js : Js} {L : List En} {now : Int} {R o : List Nat} (I : Inv T js L now R o) : o.length ≤ 4 :=
 nodup_len 4 o I.sk.nodup.2 fun x hx => by
  obtain ⟨j, hj⟩ := I.rj x (I.sk.omem x hx)
  have := I.lt hj
  have := I.n4
  omega
theorem held_mem {L : List En} {t x : Int} : x ∈ heldL L t ↔ (t, x) ∈ L := by
 simp [heldL]
theorem step_end {B : Nat} (e : Env) (g : Heap) {Q : AV → Heap → Prop} (hq : Q (.bool true) g) : VC fs ms B false (.seq (.ops [zP 4 .mov [.c (.bool true)]]) .ret) e g (endV [.tmp 4] Q) := by
 refine vc_slots 0 [] trivial (vpC_sound (z := true) ?_)
 conv => whnf
 exact hq
set_option smartUnfolding true in
theorem step_c {x : Int} (hx0 : 0 ≤ x) (hx : x < 9600) (P : Pl h col p r k st now R o) (hk : k = 3 → st.T = []) (hn0 : 0 ≤ now) (hn : now ≤ 500)
  (q0 : x % 3 = 0 → st.T ≠ [] → ∀ h' col', Pl h' col' p r k st now R o → Kc h h' col col' PK → Q (.bool true) h')
  (q1 : x % 3 = 0 → st.T ≠ [] → ∀ (i : Nat) (tk : Tk) (g : List Int), ((i : Nat) : Int) = x / 3 % st.T.length → st.T[i]? = some tk → st.j[i]? = some none → IntKind.i64.wrap (now + tk.d) = now + tk.d → ∀ h' col', Pl h' col' p r k { st with j := st.j.set i (some (jNew tk [opR] now)), g := g } now R o → Kc h h' col col' PK → Q (.bool true) h')
  (q2 : ¬ (x % 3 = 0 ∧ st.T ≠ []) → ∀ h' col' js' L' R' o', Mv st.T st.j st.L R js' L' R' → Pl h' col' p r k { st with j := js', L := L' } (now + 1) R' o' → Kc h h' col col' PK → Q (.bool true) h') :
  VD fs ms f_escapementlaw18_play_step [.ptr p 0, .int .i64 x] h Q := by
 obtain ⟨⟨ov, PA⟩, RM, I⟩ := P
 refine vd_begin (af := C_escapementlaw18_play_step) rfl (yB rfl) ?_
 set_option smartUnfolding false in conv => whnf
 refine vc_seq true ?_
 set_option smartUnfolding false in conv => whnf
 refine vc_seqV (VC.mono (Q := fun x' e' h' => (x' = .normal ∧ AllAt e' [(0, .ptr p 0), (1, .int .i64 x)] ∧ h' = h ∧ ¬ (x % 3 = 0 ∧ st.T ≠ [])) ∨ (x' = .ret ∧ endV [.tmp 4] Q .ret e' h')) (vpC_sound (z := true) ?_) ?_)
 ·set_option smartUnfolding false in conv => whnf
  refine ⟨_, rem_nn hx0 (by decide), ?_⟩
  set_option smartUnfolding false in conv => whnf
  refine br (fun hc => ?_) (fun hc => ?_) <;> (try rw [hc]) <;> (set_option smartUnfolding false in conv => whnf)
  ·have h3 : x % 3 = 0 := eq_of_beq hc
   repeat (first | (refine ⟨_, ld1 PA.get rfl, ?_⟩; set_option smartUnfolding false in conv => whnf))
   rw [len_tks]
   refine br (fun hc => ?_) (fun hc => ?_) <;> (try rw [hc]) <;> (set_option smartUnfolding false in conv => whnf)
   ·have hT : 0 < st.T.length := by have := of_decide_eq_true hc; omega
    have x3 := quo_nn hx0 (by omega) (show (0 : Int) < 3 by decide)
    have x30 : 0 ≤ x / 3 := Int.ediv_nonneg hx0 (by decide)
    have hTi : (0 : Int) < ((st.T.length : Nat) : Int) := by omega
    obtain ⟨i, hi⟩ : ∃ i : Nat, ((i : Nat) : Int) = x / 3 % ((st.T.length : Nat) : Int) := ⟨(x / 3 % ((st.T.length : Nat) : Int)).toNat, Int.toNat_of_nonneg (Int.emod_nonneg _ (by omega))⟩
    have hiT : i < st.T.length := by have := Int.emod_lt_of_pos (x / 3) hTi; omega
    have xr := rem_nn x30 hTi
    rw [← hi] at xr
    repeat (first | (refine ⟨_, ld1 PA.get rfl, ?_⟩; set_option smartUnfolding false in conv => whnf) | (refine ⟨_, x3, ?_⟩; set_option smartUnfolding false in conv => whnf))
    rw [len_tks]
    refine ⟨_, xr, ?_⟩
    set_option smartUnfolding false in conv => whnf
    have fr1 : Fr h (h.new (.cells (op opR).cells true 0)) [] := (Fr.refl h []).new
    have g1 : (h.new (.cells (op opR).cells true 0)).get h.next = some (.cells (flatCells (ops [opR])) true 0) := get_new_same
    have k1 : Kc h (h.new (.cells (op opR).cells true 0)) col (cadd col h.next 300) PK := Kc.nil fr1 300
    have c1 : cadd col h.next 300 h.next = 300 := cadd_new (Nat.le_refl _)
    have R1 : RA (h.new (.cells (op opR).cells true 0)) (cadd col h.next 300) r st := RM.keep (K := fun _ => False) (Kc.nil fr1 300) (fun _ _ _ h => h) (fun _ _ h => h)
    have P1 : PAt (h.new (.cells (op opR).cells true 0)) (cadd col h.next 300) p r k st.T now o ov := PA.keep (K := fun _ => False) (Kc.nil fr1 300) id id
    generalize cadd col h.next 300 = col1 at *
    refine ⟨_, ld1 (PA.nil fr1).get rfl, ?_⟩
    set_option smartUnfolding false in conv => whnf
    have P2 : ∀ {h' : Heap} {col' : Nat → Nat}, Kc (h.new (.cells (op opR).cells true 0)) h' col1 col' R3K → PAt h' col' p r k st.T now o ov ∧ Kc h h' col col' PK := fun f =>
     ⟨P1.keep f (fun h => by rcases h with ⟨_, h⟩ | h <;> omega) (fun h => by rcases h with ⟨_, h⟩ | h <;> omega), k1.trans (f.wk fun n h => h.imp id fun h => .inr (.inr h))⟩
    have hTn : st.T ≠ [] := by intro e; rw [e] at hT; simp at hT
    refine rmrelS_c (l := [opR]) (B := h.next) R1 (by decide) (Nat.lt_succ_self _) c1 g1 (fun ha => ?_) (fun n j hn hj => ?_) (fun n tk hn ht hj he h' col' R2 f => ?_) (fun n tk g hn ht hj he hg ha h' col' R2 f => ?_) (fun n tk g hn ht hj he hg ha h' col' R2 f => ?_)
    ·exact absurd (by rw [askE, decide_eq_false (by omega), decide_eq_false (by omega)]; rfl) ha
    ·set_option smartUnfolding false in conv => whnf
     exact .inr ⟨rfl, endV_one rfl (q0 h3 hTn _ _ ⟨⟨ov, P1⟩, R1, I⟩ k1)⟩
    ·set_option smartUnfolding false in conv => whnf
     obtain ⟨a, b⟩ := P2 f
     exact .inr ⟨rfl, endV_one rfl (q0 h3 hTn _ _ ⟨⟨ov, a⟩, R2, I⟩ b)⟩
    ·set_option smartUnfolding false in conv => whnf
     obtain ⟨a, b⟩ := P2 f
     exact .inr ⟨rfl, endV_one rfl (q0 h3 hTn _ _ ⟨⟨ov, a⟩, R2, I⟩ b)⟩
    ·set_option smartUnfolding false in conv => whnf
     obtain ⟨a, b⟩ := P2 f
     exact .inr ⟨rfl, endV_one rfl (q1 h3 hTn n tk _ (by rw [← hi]; omega) ht hj (jnew_ok he).2.2.2.2 h' col' ⟨⟨ov, a⟩, R2, I.rel hj ht rfl rfl rfl (jnew_ok he).2.2.2.2⟩ b)⟩
   ·refine .inl ⟨rfl, ⟨rfl, rfl, trivial⟩, rfl, fun h => ?_⟩
    have : 0 < st.T.length := List.length_pos_iff.2 h.2
    have := of_decide_eq_false hc
    omega
  ·have h3 : ¬ x % 3 = 0 := by intro h; rw [h] at hc; simp at hc
   exact .inl ⟨rfl, ⟨rfl, rfl, trivial⟩, rfl, fun h => h3 h.1⟩
 ·rintro x' e' h' (⟨rfl, he, rfl, hno⟩ | ⟨rfl, hq⟩)
  ·show VC fs ms _ _ _ _ _ _
   refine vc_slots 6 _ he (vc_seq true ?_)
   set_option smartUnfolding false in conv => whnf
   refine ⟨_, ld1 PA.get rfl, ?_⟩
   set_option smartUnfolding false in conv => whnf
   refine eff_o (sto_o PA.get rfl (yB rfl) rfl) fun h1 e1 => ?_
   set_option smartUnfolding false in conv => whnf
   replace e1 : h1 = h'.set p (.cells [.ptr r 0, .fz k (tks st.T), .int .i64 (IntKind.i64.wrap (now + 1)), ov] true 0) := e1
   rw [IntWalk.i64_in (now + 1) (by omega)] at e1
   have fs1 : Kc h' h1 col col (· = 200) := ⟨by rw [e1]; exact Nat.le_refl _, fun c hc hn => by rw [e1, get_set_ne (by intro e; rw [e, PA.co] at hn; exact hn rfl)], fun _ _ => rfl⟩
   have P1 : PAt h1 col p r k st.T (now + 1) o ov := by
    refine ⟨by rw [e1]; exact PA.lt, PA.co, by rw [e1]; exact get_set_same, ?_⟩
    rcases PA.row with h | ⟨b, a1, a2, a3, a4⟩
    ·exact .inl h
    ·refine .inr ⟨b, a1, by rw [e1]; exact a2, a3, ?_⟩
     rw [e1, get_set_ne (by intro e; rw [e, PA.co] at a3; omega)]
     exact a4
   have RM1 : RA h1 col r st := RM.pk fs1 (fun n h => by omega)
   have I1 := I.tick
   have ks1 : Kc h' h1 col col PK := fs1.wk fun n h => .inr (.inl h)
   clear e1 fs1
   have hL : st.L.length ≤ 900 := by have := I.ln; omega
   have hn4 := I.n4
   refine vc_seqV (VC.mono (Q := fun x' e' g' => x' = .normal ∧ g' = h1 ∧ ((∃ (a : Nat) (R2 : List Nat), AllAt e' [(0, .ptr p 0), (1, .int .i64 x), (5, .int .i64 ((a : Nat) : Int)), (6, .bool true)] ∧ Goes st.T st.j st.L R a R2 ∧ Inv st.T st.j st.L (now + 1) (a :: R2) o) ∨
    (AllAt e' [(0, .ptr p 0), (1, .int .i64 x), (5, .int .i64 0), (6, .bool false)] ∧ ∀ i j, ¬ hasJ st.j i j))) (vpC_sound (z := true) ?_) ?_)
   ·set_option smartUnfolding false in conv => whnf
    repeat (first | (refine ⟨_, ld1 P1.get rfl, ?_⟩; set_option smartUnfolding false in conv => whnf))
    refine rmwho_c RM1 hL (fun i j hj h2 _ => ?_) (fun hno => ?_) (fun _ i j F hg => ?_) (fun _ i j F hg hl => ?_)
    ·rcases I.sec i j hj with h | h <;> omega
    ·set_option smartUnfolding false in conv => whnf
     exact ⟨rfl, rfl, .inr ⟨⟨rfl, rfl, rfl, rfl, trivial⟩, hno⟩⟩
    ·set_option smartUnfolding false in conv => whnf
     obtain ⟨R2, G, I2⟩ := I1.goes_fst F hg
     exact ⟨rfl, rfl, .inl ⟨i, R2, ⟨rfl, rfl, rfl, rfl, trivial⟩, G, I2⟩⟩
    ·obtain ⟨a, R2, ht, G, I2⟩ := I1.goes_top F hl
     rw [ht]
     set_option smartUnfolding false in conv => whnf
     exact ⟨rfl, rfl, .inl ⟨a, R2, ⟨rfl, rfl, rfl, rfl, trivial⟩, G, I2⟩⟩
   ·rintro x' e' g' ⟨rfl, rfl, (⟨a, R2, he, G, I2⟩ | ⟨he, hnoj⟩)⟩
    ·show VC fs ms _ _ _ _ _ _
     obtain ⟨ja, hja⟩ := I2.rj a (by simp)
     have hat := I2.lt hja
     refine vc_slots 6 _ he ?_
     refine vc_seqV (vpC_sound (z := true) ?_)
     set_option smartUnfolding false in conv => whnf
     repeat (first | (refine ⟨_, ld1 P1.get rfl, ?_⟩; set_option smartUnfolding false in conv => whnf))
     rw [len_tks]
     refine brf (decide_eq_false (by omega)) (fun hc => ?_)
     (try rw [hc])
     set_option smartUnfolding false in conv => whnf
     refine vc_seq true ?_
     set_option smartUnfolding false in conv => whnf
     refine ⟨_, quo_nn hx0 (by omega) (show (0 : Int) < 24 by decide), ?_⟩
     set_option smartUnfolding false in conv => whnf
     refine ⟨_, rem_nn (Int.ediv_nonneg hx0 (by decide)) (show (0 : Int) < 4 by decide), ?_⟩
     set_option smartUnfolding false in conv => whnf
     have y0 : 0 ≤ x / 24 % 4 := Int.emod_nonneg _ (by decide)
     have y4 : x / 24 % 4 < 4 := Int.emod_lt_of_pos _ (by decide)
     have z0 : 0 ≤ x / 3 % 8 := Int.emod_nonneg _ (by decide)
     have x30 := quo_nn hx0 (by omega) (show (0 : Int) < 3 by decide)
     have x31 := rem_nn (Int.ediv_nonneg hx0 (show (0 : Int) ≤ 3 by decide)) (show (0 : Int) < 8 by decide)
     generalize x / 24 % 4 = y at *
     generalize x / 3 % 8 = z at *
     refine vc_seqV (vc_seq true ?_)
     set_option smartUnfolding false in conv => whnf
     refine ⟨_, x30, ?_⟩
     set_option smartUnfolding false in conv => whnf
     refine ⟨_, x31, ?_⟩
     set_option smartUnfolding false in conv => whnf
     refine vc_block ?_
     have hq2 : ∀ {g : Heap} {c2 : Nat → Nat} {js' : Js} {L' : List En} {R' o' : List Nat}, Mv st.T st.j st.L R js' L' R' → Pl g c2 p r k { st with j := js', L := L' } (now + 1) R' o' → Kc g' g col c2 PK → Q (.bool true) g :=
      fun m P f => q2 hno _ _ _ _ _ _ m P (ks1.trans f)
     refine vc_seqV (VC.mono (Q := fun x' e' g => x' = .normal ∧ g = g' ∧ ∃ b, AllAt e' [(0, .ptr p 0), (5, .int .i64 ((a : Nat) : Int)), (7, .int .i64 y), (89, .int .i64 z), (118, .bool b)]) (vpC_sound (z := true) ?_) ?_)
     ·set_option smartUnfolding false in conv => whnf
      refine br (fun hc => ?_) (fun hc => ?_) <;> (try rw [hc]) <;> (set_option smartUnfolding false in conv => whnf)
      ·exact ⟨rfl, rfl, _, rfl, rfl, rfl, rfl, rfl, trivial⟩
      ·refine br (fun hc => ?_) (fun hc => ?_) <;> (try rw [hc]) <;> (set_option smartUnfolding false in conv => whnf)
       ·exact ⟨rfl, rfl, _, rfl, rfl, rfl, rfl, rfl, trivial⟩
       ·exact ⟨rfl, rfl, _, rfl, rfl, rfl, rfl, rfl, trivial⟩
     ·rintro x' e' g ⟨rfl, rfl, b, he⟩
      show VC fs ms _ _ _ _ _ _
      have leafE : ∀ g3, Fr g g3 [] → Q (.bool true) g3 := fun g3 fr => hq2 (.inr ⟨a, R2, G, .inl ⟨rfl, JE.refl _, fun x h => .inr h⟩⟩) ⟨⟨ov, P1.nil fr⟩, RM1.nil fr, I2⟩ (Kc.same fr)
      cases b with
      | true =>
       refine vc_slots 7 _ he (vc_condV ?_)
       set_option smartUnfolding false in conv => whnf
       refine vc_seqV (VC.mono (Q := fun x' e' g2 => x' = .normal ∧ Fr g g2 [] ∧ ∃ (u : Int) (tk : Bool), AllAt e' [(0, .ptr p 0), (5, .int .i64 ((a : Nat) : Int)), (7, .int .i64 y), (8, .int .i64 u), (9, .bool tk)] ∧
        (tk = true → ∃ (i : Nat) (j : Jb), u = ((i : Nat) : Int) ∧ hasJ st.j i j ∧ y ∈ heldL st.L i) ∧ (tk = false → ∀ (i : Nat) (j : Jb), i < st.T.length → hasJ st.j i j → y ∉ heldL st.L i)) (vpC_sound (z := true) ?_) ?_)
       ·set_option smartUnfolding false in conv => whnf
        refine pheld_c P1 RM1 (by omega) hn4 (fun hn g2 fr => ?_) (fun i j hi hj hm g2 fr => ?_)
        ·set_option smartUnfolding false in conv => whnf
         exact ⟨rfl, fr, 0, false, ⟨rfl, rfl, rfl, rfl, rfl, trivial⟩, (fun h => by cases h), fun _ => hn⟩
        ·set_option smartUnfolding false in conv => whnf
         exact ⟨rfl, fr, _, true, ⟨rfl, rfl, rfl, rfl, rfl, trivial⟩, fun _ => ⟨i, j, rfl, hj, hm⟩, fun h => by cases h⟩
       ·rintro x' e' g2 ⟨rfl, fr2, u, tk, he, ht1, ht2⟩
        show VC fs ms _ _ _ _ _ _
        have P2 := P1.nil fr2
        have RM2 := RM1.nil fr2
        obtain ⟨t, hta⟩ : ∃ t, st.T[a]? = some t := ⟨_, List.getElem?_eq_getElem hat⟩
        have htk : st.T[a] = t := by rw [List.getElem?_eq_getElem hat] at hta; exact Option.some.inj hta
        have hus : uses st.T a y = decide (t.a / 2 ^ y.toNat % 2 = 1) := uses_in ⟨by omega, by omega, y0, by omega⟩ (by rw [Int.toNat_natCast]; exact hta)
        have hand : (IntKind.i64.wrap ((BitVec.ofInt 64 (t.a / 2 ^ y.toNat) &&& BitVec.ofInt 64 1).toNat : Int) == 1) = uses st.T a y := by rw [and1, hus]; rfl
        cases tk with
        | false =>
         have hnone := ht2 rfl
         refine vc_slots 7 _ he (vpC_sound (z := true) ?_)
         set_option smartUnfolding false in conv => whnf
         repeat (first | (refine ⟨_, ld1 P2.get rfl, ?_⟩; set_option smartUnfolding false in conv => whnf))
         refine rmlock_c RM2 hL (fun hn => (hn (ofE_some hat hja)).elim) (fun i j hi hj hs => ?_) (fun i j hi hj hs hne g3 fr3 => ?_) (fun i j hi hj hs hz g3 c3 R3 f3 => ?_)
         ·rcases I.sec i j hj with h | h <;> omega
         ·have P3 := P2.nil fr3
          set_option smartUnfolding false in conv => whnf
          repeat (first | (refine ⟨_, ld1 P3.get rfl, ?_⟩; set_option smartUnfolding false in conv => whnf))
          refine ⟨_, idx_tk hat, ?_⟩
          set_option smartUnfolding false in conv => whnf
          rw [htk]
          refine ⟨.int .i64 t.a, rfl, ?_⟩
          set_option smartUnfolding false in conv => whnf
          refine ⟨_, bin_shr8 t.a y0 (by omega), ?_⟩
          set_option smartUnfolding false in conv => whnf
          have hlf := leafE g3 (fr2.trans fr3)
          cases hu : uses st.T a y with
          | false =>
           refine brf (hand.trans hu) (fun hc => ?_)
           (try rw [hc])
           set_option smartUnfolding false in conv => whnf
           refine brf (by simpa using hne) (fun hc => ?_)
           (try rw [hc])
           set_option smartUnfolding false in conv => whnf
           exact step_end _ _ hlf
          | true =>
           refine brt (hand.trans hu) (fun hc => ?_)
           (try rw [hc])
           set_option smartUnfolding false in conv => whnf
           refine br (fun hc => ?_) (fun hc => ?_) <;> (try rw [hc]) <;> (set_option smartUnfolding false in conv => whnf)
           ·exfalso
            obtain ⟨x1, hx1, hx2⟩ := lock131 (eq_of_beq hc)
            have hx3 : x1.1 = ((a : Nat) : Int) := I2.free hu (x := y) (by rw [← hx2]; exact hx1)
            refine hnone a ja hat hja (held_mem.2 ?_)
            rw [← hx2, ← hx3]
            exact hx1
           ·refine brf (by simpa using hne) (fun hc => ?_)
            (try rw [hc])
            set_option smartUnfolding false in conv => whnf
            exact step_end _ _ hlf
         ·have hia2 : i = a := by omega
          subst hia2
          have hjj : j = ja := hasJ.eq (js := st.j) hj hja
          subst hjj
          have P3 := P2.rk f3
          have kf3 : Kc g g3 col c3 PK := (Kc.same fr2).trans (f3.wk fun n h => .inl h)
          set_option smartUnfolding false in conv => whnf
          repeat (first | (refine ⟨_, ld1 P3.get rfl, ?_⟩; set_option smartUnfolding false in conv => whnf))
          refine ⟨_, idx_tk hat, ?_⟩
          set_option smartUnfolding false in conv => whnf
          rw [htk]
          refine ⟨.int .i64 t.a, rfl, ?_⟩
          set_option smartUnfolding false in conv => whnf
          refine ⟨_, bin_shr8 t.a y0 (by omega), ?_⟩
          set_option smartUnfolding false in conv => whnf
          have hu := lock0 hz
          refine brt (hand.trans hu) (fun hc => ?_)
          (try rw [hc])
          set_option smartUnfolding false in conv => whnf
          repeat (first | (refine ⟨_, ld1 P3.get rfl, ?_⟩; set_option smartUnfolding false in conv => whnf))
          refine rheld_any R3 (by rw [List.length_append]; exact Nat.le_trans (Nat.add_le_add_right hL 1) (by decide)) hat fun g4 v4 l4 hr4 fr4 _ hl4 he4 => ?_
          have el4 : l4 = heldL (st.L ++ [(((i : Nat) : Int), y)]) i := he4 (jLk j) (hasJ_set.2 (.inl ⟨rfl, (List.getElem?_eq_some_iff.1 hja).1, rfl⟩))
          have hlen : ((l4.length : Nat) : Int) = 1 ↔ heldL st.L i = [] := by
           rw [el4, held_app, held_all (L := [(((i : Nat) : Int), y)]) (by simp), List.length_append]
           constructor
           ·intro h
            simp at h
            exact List.length_eq_zero_iff.1 (by omega)
           ·intro h
            rw [h]; rfl
          have I3 := I2.job (j' := jLk j) hja (by rw [jLk]; split <;> rfl) (by rw [jLk]; split <;> rfl) (by rw [jLk]; split; exact .inr rfl; exact I.sec i j hja) (fun _ => by simp) (I2.sk.lock y) (by rw [List.length_append]; have := I.ln; simp; omega)
          have M3 : Mv st.T st.j st.L R (st.j.set i (some (jLk j))) (st.L ++ [(((i : Nat) : Int), y)]) (i :: R2) := .inr ⟨i, R2, G, .inl ⟨rfl, JE.set hja (by rw [jLk]; split <;> rfl), fun x hx => by
           rcases List.mem_append.1 hx with h | h
           ·exact .inr h
           ·rw [List.mem_singleton.1 h]; exact .inl rfl⟩⟩
          have P4 := P3.nil fr4
          have R4 := R3.nil fr4
          set_option smartUnfolding false in conv => whnf
          refine opt_go hr4.read.1 ?_
          set_option smartUnfolding false in conv => whnf
          refine br (fun hc => ?_) (fun hc => ?_) <;> (try rw [hc]) <;> (set_option smartUnfolding false in conv => whnf)
          ·rw [if_pos (hlen.1 (eq_of_beq hc))] at I3
           repeat (first | (refine ⟨_, ld1 P4.get rfl, ?_⟩; set_option smartUnfolding false in conv => whnf))
           have hol : o.length ≤ 1000 := Nat.le_trans I2.olen (by decide)
           obtain ⟨v', g5, b1, b2, b3, b4, b5⟩ := P4.push hol i
           refine ⟨_, _, b1, ?_⟩
           set_option smartUnfolding false in conv => whnf
           refine eff_o (sto_o (o := 0 + 3) (n := 1) b4 (by rw [b2]; rfl) (yB rfl) (by rw [b2]; show cond v'.flat _ _ = _; rw [b3]; rfl)) fun g6 e6 => ?_
           rw [b2] at e6
           obtain ⟨P6, f6⟩ := b5 g6 e6
           set_option smartUnfolding false in conv => whnf
           exact step_end _ _ (hq2 M3 ⟨⟨v', P6⟩, R4.pk f6 (fun n h => by omega), I3⟩ (kf3.trans ((Kc.same fr4).trans (f6.wk fun n h => .inr (h.imp id .inl)))))
          ·rw [if_neg (fun h => by rw [hlen.2 h] at hc; simp at hc)] at I3
           exact step_end _ _ (hq2 M3 ⟨⟨ov, P4⟩, R4, I3⟩ (kf3.trans (Kc.same fr4)))
        | true =>
         obtain ⟨i0, j0, rfl, hi0, hm0⟩ := ht1 rfl
         refine vc_slots 7 _ he (vpC_sound (z := true) ?_)
         set_option smartUnfolding false in conv => whnf
         repeat (first | (refine ⟨_, ld1 P2.get rfl, ?_⟩; set_option smartUnfolding false in conv => whnf))
         refine rmlock_c RM2 hL (fun hn => (hn (ofE_some hat hja)).elim) (fun i j hi hj hs => ?_) (fun i j hi hj hs hne g3 fr3 => ?_) (fun i j hi hj hs hz g3 c3 R3 f3 => ?_)
         ·rcases I.sec i j hj with h | h <;> omega
         ·have P3 := P2.nil fr3
          set_option smartUnfolding false in conv => whnf
          repeat (first | (refine ⟨_, ld1 P3.get rfl, ?_⟩; set_option smartUnfolding false in conv => whnf))
          refine ⟨_, idx_tk hat, ?_⟩
          set_option smartUnfolding false in conv => whnf
          rw [htk]
          refine ⟨.int .i64 t.a, rfl, ?_⟩
          set_option smartUnfolding false in conv => whnf
          refine ⟨_, bin_shr8 t.a y0 (by omega), ?_⟩
          set_option smartUnfolding false in conv => whnf
          have hlf := leafE g3 (fr2.trans fr3)
          cases hu : uses st.T a y with
          | false =>
           refine brf (hand.trans hu) (fun hc => ?_)
           (try rw [hc])
           set_option smartUnfolding false in conv => whnf
           refine brf (by simpa using hne) (fun hc => ?_)
           (try rw [hc])
           set_option smartUnfolding false in conv => whnf
           exact step_end _ _ hlf
          | true =>
           refine brt (hand.trans hu) (fun hc => ?_)
           (try rw [hc])
           set_option smartUnfolding false in conv => whnf
           have hia : ((i0 : Nat) : Int) = ((a : Nat) : Int) := I2.free hu (held_mem.1 hm0)
           refine br (fun hc => ?_) (fun hc => ?_) <;> (try rw [hc]) <;> (set_option smartUnfolding false in conv => whnf)
           ·refine brf (by rw [hia]; simp) (fun hc => ?_)
            (try rw [hc])
            set_option smartUnfolding false in conv => whnf
            refine brf (by rw [hia]; simp) (fun hc => ?_)
            (try rw [hc])
            set_option smartUnfolding false in conv => whnf
            refine brf (by simpa using hne) (fun hc => ?_)
            (try rw [hc])
            set_option smartUnfolding false in conv => whnf
            exact step_end _ _ hlf
           ·refine brf (by rw [hia]; simp) (fun hc => ?_)
            (try rw [hc])
            set_option smartUnfolding false in conv => whnf
            refine brf (by simpa using hne) (fun hc => ?_)
            (try rw [hc])
            set_option smartUnfolding false in conv => whnf
            exact step_end _ _ hlf
         ·have hia2 : i = a := by omega
          subst hia2
          have hjj : j = ja := hasJ.eq (js := st.j) hj hja
          subst hjj
          have P3 := P2.rk f3
          have kf3 : Kc g g3 col c3 PK := (Kc.same fr2).trans (f3.wk fun n h => .inl h)
          set_option smartUnfolding false in conv => whnf
          repeat (first | (refine ⟨_, ld1 P3.get rfl, ?_⟩; set_option smartUnfolding false in conv => whnf))
          refine ⟨_, idx_tk hat, ?_⟩
          set_option smartUnfolding false in conv => whnf
          rw [htk]
          refine ⟨.int .i64 t.a, rfl, ?_⟩
          set_option smartUnfolding false in conv => whnf
          refine ⟨_, bin_shr8 t.a y0 (by omega), ?_⟩
          set_option smartUnfolding false in conv => whnf
          have hu := lock0 hz
          have hia : ((i0 : Nat) : Int) = ((i : Nat) : Int) := I2.free hu (held_mem.1 hm0)
          refine brt (hand.trans hu) (fun hc => ?_)
          (try rw [hc])
          set_option smartUnfolding false in conv => whnf
          refine brf (by rw [hia]; simp) (fun hc => ?_)
          (try rw [hc])
          set_option smartUnfolding false in conv => whnf
          repeat (first | (refine ⟨_, ld1 P3.get rfl, ?_⟩; set_option smartUnfolding false in conv => whnf))
          refine rheld_any R3 (by rw [List.length_append]; exact Nat.le_trans (Nat.add_le_add_right hL 1) (by decide)) hat fun g4 v4 l4 hr4 fr4 _ hl4 he4 => ?_
          have el4 : l4 = heldL (st.L ++ [(((i : Nat) : Int), y)]) i := he4 (jLk j) (hasJ_set.2 (.inl ⟨rfl, (List.getElem?_eq_some_iff.1 hja).1, rfl⟩))
          have hlen : ((l4.length : Nat) : Int) = 1 ↔ heldL st.L i = [] := by
           rw [el4, held_app, held_all (L := [(((i : Nat) : Int), y)]) (by simp), List.length_append]
           constructor
           ·intro h
            simp at h
            exact List.length_eq_zero_iff.1 (by omega)
           ·intro h
            rw [h]; rfl
          have I3 := I2.job (j' := jLk j) hja (by rw [jLk]; split <;> rfl) (by rw [jLk]; split <;> rfl) (by rw [jLk]; split; exact .inr rfl; exact I.sec i j hja) (fun _ => by simp) (I2.sk.lock y) (by rw [List.length_append]; have := I.ln; simp; omega)
          have M3 : Mv st.T st.j st.L R (st.j.set i (some (jLk j))) (st.L ++ [(((i : Nat) : Int), y)]) (i :: R2) := .inr ⟨i, R2, G, .inl ⟨rfl, JE.set hja (by rw [jLk]; split <;> rfl), fun x hx => by
           rcases List.mem_append.1 hx with h | h
           ·exact .inr h
           ·rw [List.mem_singleton.1 h]; exact .inl rfl⟩⟩
          have P4 := P3.nil fr4
          have R4 := R3.nil fr4
          set_option smartUnfolding false in conv => whnf
          refine opt_go hr4.read.1 ?_
          set_option smartUnfolding false in conv => whnf
          refine br (fun hc => ?_) (fun hc => ?_) <;> (try rw [hc]) <;> (set_option smartUnfolding false in conv => whnf)
          ·rw [if_pos (hlen.1 (eq_of_beq hc))] at I3
           repeat (first | (refine ⟨_, ld1 P4.get rfl, ?_⟩; set_option smartUnfolding false in conv => whnf))
           have hol : o.length ≤ 1000 := Nat.le_trans I2.olen (by decide)
           obtain ⟨v', g5, b1, b2, b3, b4, b5⟩ := P4.push hol i
           refine ⟨_, _, b1, ?_⟩
           set_option smartUnfolding false in conv => whnf
           refine eff_o (sto_o (o := 0 + 3) (n := 1) b4 (by rw [b2]; rfl) (yB rfl) (by rw [b2]; show cond v'.flat _ _ = _; rw [b3]; rfl)) fun g6 e6 => ?_
           rw [b2] at e6
           obtain ⟨P6, f6⟩ := b5 g6 e6
           set_option smartUnfolding false in conv => whnf
           exact step_end _ _ (hq2 M3 ⟨⟨v', P6⟩, R4.pk f6 (fun n h => by omega), I3⟩ (kf3.trans ((Kc.same fr4).trans (f6.wk fun n h => .inr (h.imp id .inl)))))
          ·rw [if_neg (fun h => by rw [hlen.2 h] at hc; simp at hc)] at I3
           exact step_end _ _ (hq2 M3 ⟨⟨ov, P4⟩, R4, I3⟩ (kf3.trans (Kc.same fr4)))
      | false =>
       refine vc_slots 7 _ he (vpC_sound (z := true) ?_)
       set_option smartUnfolding false in conv => whnf
       refine br (fun hc => ?_) (fun hc => ?_) <;> (try rw [hc]) <;> (set_option smartUnfolding false in conv => whnf)
       ·repeat (first | (refine ⟨_, ld1 P1.get rfl, ?_⟩; set_option smartUnfolding false in conv => whnf))
        refine rmunlock_c RM1 hL (fun hn => (hn (ofE_some hat hja)).elim) (fun i j hi hj hne g3 fr3 => ?_) (fun i j hi hj hz n hn hla g3 c3 R3 f3 => ?_)
        ·set_option smartUnfolding false in conv => whnf
         refine brf (by simpa using hne) (fun hc => ?_)
         (try rw [hc])
         set_option smartUnfolding false in conv => whnf
         exact step_end _ _ (leafE g3 fr3)
        ·have hia2 : i = a := by omega
         subst hia2
         have hjj : j = ja := hasJ.eq (js := st.j) hj hja
         subst hjj
         have P3 := P1.rk f3
         have kf3 : Kc g g3 col c3 PK := f3.wk fun n h => .inl h
         have ee : ∀ L, (jUnl L ((i : Nat) : Int) j).e = j.e ∧ (jUnl L ((i : Nat) : Int) j).t = j.t ∧ ((jUnl L ((i : Nat) : Int) j).s = 0 ∨ (jUnl L ((i : Nat) : Int) j).s = 1) := by
          intro L
          have h0 := I.sec i j hja
          rw [jUnl]
          split
          ·rw [jLea]
           split
           ·exact ⟨rfl, rfl, h0⟩
           ·exact ⟨rfl, rfl, .inl rfl⟩
          ·exact ⟨rfl, rfl, h0⟩
         have I3 := I2.job (j' := jUnl (st.L.eraseIdx n) ((i : Nat) : Int) j) hja (ee _).1 (ee _).2.1 (ee _).2.2 (fun _ => by simp) (I2.sk.unl hn hla) (by rw [List.length_eraseIdx]; have := I.ln; split <;> omega)
         have M3 : Mv st.T st.j st.L R (st.j.set i (some (jUnl (st.L.eraseIdx n) ((i : Nat) : Int) j))) (st.L.eraseIdx n) (i :: R2) := .inr ⟨i, R2, G, .inl ⟨rfl, JE.set hja (ee _).1, fun x hx => .inr (List.eraseIdx_subset hx)⟩⟩
         set_option smartUnfolding false in conv => whnf
         repeat (first | (refine ⟨_, ld1 P3.get rfl, ?_⟩; set_option smartUnfolding false in conv => whnf))
         refine rheld_any R3 (by show (st.L.eraseIdx n).length ≤ 1000; rw [List.length_eraseIdx]; split <;> omega) hat fun g4 v4 l4 hr4 fr4 _ hl4 he4 => ?_
         have el4 : l4 = heldL (st.L.eraseIdx n) i := he4 _ (hasJ_set.2 (.inl ⟨rfl, (List.getElem?_eq_some_iff.1 hja).1, rfl⟩))
         have P4 := P3.nil fr4
         have R4 := R3.nil fr4
         have hol : o.length ≤ 1000 := Nat.le_trans I2.olen (by decide)
         set_option smartUnfolding false in conv => whnf
         refine opt_go hr4.read.1 ?_
         set_option smartUnfolding false in conv => whnf
         refine br (fun hc => ?_) (fun hc => ?_) <;> (try rw [hc]) <;> (set_option smartUnfolding false in conv => whnf)
         ·have hz : heldL (st.L.eraseIdx n) i = [] := by
           rw [← el4]
           have := eq_of_beq hc
           exact List.length_eq_zero_iff.1 (by omega)
          rw [if_pos hz] at I3
          refine gone_c P4 hol fun g5 c5 v5 w5 P5 f5 => ?_
          set_option smartUnfolding false in conv => whnf
          exact step_end _ _ (hq2 M3 ⟨⟨v5, P5⟩, R4.pk f5 (fun n h => by omega), I3⟩ (kf3.trans ((Kc.same fr4).trans (f5.wk fun n h => .inr (.inl h)))))
         ·have hz : heldL (st.L.eraseIdx n) i ≠ [] := by
           intro h
           rw [el4, h] at hc
           simp at hc
          rw [if_neg hz] at I3
          exact step_end _ _ (hq2 M3 ⟨⟨ov, P4⟩, R4, I3⟩ (kf3.trans (Kc.same fr4)))
       ·refine br (fun hc => ?_) (fun hc => ?_) <;> (try rw [hc]) <;> (set_option smartUnfolding false in conv => whnf)
        ·have hol : o.length ≤ 1000 := Nat.le_trans I2.olen (by decide)
         refine gone_c P1 hol fun g3 c3 v3 w3 P3 f3 => ?_
         have R3 := RM1.pk f3 (fun n h => by omega)
         set_option smartUnfolding false in conv => whnf
         repeat (first | (refine ⟨_, ld1 P3.get rfl, ?_⟩; set_option smartUnfolding false in conv => whnf))
         refine rmend_c R3 hL (fun hn => (hn (ofE_some hat hja)).elim) (fun i j hi hj g4 c4 R4 f4 => ?_)
         have hia2 : i = a := by omega
         subst hia2
         set_option smartUnfolding false in conv => whnf
         exact hq2 (.inr ⟨i, R2, G, .inr ⟨rfl, rfl, rfl⟩⟩) ⟨⟨v3, P3.rk f4⟩, R4, I2.end'⟩ ((f3.wk fun n h => .inr (.inl h)).trans (f4.wk fun n h => .inl h))
        ·repeat (first | (refine ⟨_, ld1 P1.get rfl, ?_⟩; set_option smartUnfolding false in conv => whnf))
         refine rmrun_c RM1 (fun hn => (hn (ofE_some hat hja)).elim) (fun i j hi hj g3 c3 R3 f3 => ?_)
         have hia2 : i = a := by omega
         subst hia2
         have hjj : j = ja := hasJ.eq (js := st.j) hj hja
         subst hjj
         have P3 := P1.rk f3
         have kf3 : Kc g g3 col c3 PK := f3.wk fun n h => .inl h
         have er : (jRun j).e = j.e ∧ (jRun j).t = j.t ∧ (jRun j).s = j.s := by
          rw [jRun]
          split <;> exact ⟨rfl, rfl, rfl⟩
         have I3 := I2.job (j' := jRun j) hja er.1 er.2.1 (by rw [er.2.2]; exact I.sec i j hja) (fun _ => by simp) I2.sk I2.ln
         have M3 : Mv st.T st.j st.L R (st.j.set i (some (jRun j))) st.L (i :: R2) := .inr ⟨i, R2, G, .inl ⟨rfl, JE.set hja er.1, fun x hx => .inr hx⟩⟩
         have hja3 : hasJ (st.j.set i (some (jRun j))) i (jRun j) := hasJ_set.2 (.inl ⟨rfl, (List.getElem?_eq_some_iff.1 hja).1, rfl⟩)
         have fin : ∀ g4, Fr g3 g4 [] → Q (.bool true) g4 := fun g4 fr4 => hq2 M3 ⟨⟨ov, P3.nil fr4⟩, R3.nil fr4, I3⟩ (kf3.trans (Kc.same fr4))
         set_option smartUnfolding false in conv => whnf
         refine br (fun hc => ?_) (fun hc => ?_) <;> (try rw [hc]) <;> (set_option smartUnfolding false in conv => whnf)
         ·exact fin _ (Fr.refl _ _)
         ·have hne : jRunE j ≠ 0 := by intro h; rw [h] at hc; simp at hc
          have hrow : rowR (jRun j).l = false := by
           have h1 : jRun j = j := by rw [jRun, if_neg (by simpa using hne)]
           rw [h1]
           cases hr : rowR j.l with
           | false => rfl
           | true =>
            exfalso
            apply hne
            rw [jRunE, hr]
            rcases I.sec i j hja with h | h <;> rw [h] <;> rfl
          repeat (first | (refine ⟨_, ld1 P3.get rfl, ?_⟩; set_option smartUnfolding false in conv => whnf))
          refine rfault_c R3 (fun hn => (hn (ofE_some hat hja3)).elim) (fun i2 j2 hi2 hj2 g4 fr4 => ?_)
          set_option smartUnfolding false in conv => whnf
          refine br (fun hc => ?_) (fun hc => ?_) <;> (try rw [hc]) <;> (set_option smartUnfolding false in conv => whnf)
          ·exact fin _ fr4
          ·repeat (first | (refine ⟨_, ld1 (P3.nil fr4).get rfl, ?_⟩; set_option smartUnfolding false in conv => whnf))
           refine norun_c (R3.nil fr4) hja3 hat fun g5 fr5 => ?_
           rw [hrow]
           set_option smartUnfolding false in conv => whnf
           exact fin _ (fr4.trans fr5)
    ·show VC fs ms _ _ _ _ _ _
     refine vc_slots 6 _ he ?_
     refine vc_seqV (vpC_sound (z := true) ?_)
     set_option smartUnfolding false in conv => whnf
     repeat (first | (refine ⟨_, ld1 P1.get rfl, ?_⟩; set_option smartUnfolding false in conv => whnf))
     refine rjobs_c RM1 fun g3 v3 M hr hm _ _ fr3 => ?_
     have hM : idl M = [] := by
      cases M with
      | nil => rfl
      | cons y M =>
       obtain ⟨j, hj, _⟩ := (hm y).1 (by simp)
       exact (hnoj _ _ hj).elim
     rw [hM] at hr
     set_option smartUnfolding false in conv => whnf
     refine opt_go hr.read.1 ?_
     set_option smartUnfolding false in conv => whnf
     exact q2 hno _ _ _ _ _ _ (.inl ⟨rfl, rfl, rfl⟩) ⟨⟨ov, P1.nil fr3⟩, RM1.nil fr3, I1⟩ (ks1.trans (Kc.same fr3))
  ·exact hq
end
theorem mk_ok (t : Tk) : taskOk (mkT t) = true := by
 have bp := bring_in (i := t.p) (n := 64) (by decide)
 have kp : 0 < mkP t ∧ mkP t ≤ 64 := ⟨by show 0 < 1 + bring t.p 64; omega, by show 1 + bring t.p 64 ≤ 64; omega⟩
 have bd := bring_in (i := t.d) kp.1
 have kd : 0 < mkD t ∧ mkD t ≤ mkP t := ⟨by show 0 < 1 + bring t.d (mkP t); omega, by show 1 + bring t.d (mkP t) ≤ mkP t; omega⟩
 have bw := bring_in (i := t.w) kd.1
 have kw : 0 < mkW t ∧ mkW t ≤ mkD t := ⟨by show 0 < 1 + bring t.w (mkD t); omega, by show 1 + bring t.w (mkD t) ≤ mkD t; omega⟩
 have : 1 ≤ mkW t ∧ mkW t ≤ mkD t ∧ mkD t ≤ mkP t ∧ mkP t ≤ 64 := ⟨by omega, kw.2, kd.2, kp.2⟩
 simpa [taskOk, mkT] using this
theorem made_ok (l : List Tk) : tasksOk (madeT l) = true := by
 rw [tasksOk, Bool.and_eq_true, decide_eq_true_eq, List.all_eq_true]
 refine ⟨fun t ht => ?_, madeT_4 l⟩
 obtain ⟨u, _, rfl⟩ := List.mem_map.1 ht
 exact mk_ok u
theorem made_chk (l : List Tk) : demCheck (madeT l) (List.replicate (madeT l).length 0) = 0 := by
 rw [demCheck, if_pos]
 refine ⟨?_, made_ok l, List.length_replicate⟩
 rw [List.any_eq_false]
 intro x hx
 rw [List.eq_of_mem_replicate hx]
 decide
section
variable {h h' h0 : Heap} {col col' : Nat → Nat} {p r k : Nat} {now : Int} {R o : List Nat} {st : St}
theorem inv_new {T : List Tk} (hT : T.length ≤ 4) : Inv T (List.replicate T.length none) [] 0 [] [] := by
 have no : ∀ i j, ¬ hasJ (List.replicate T.length none) i j := fun i j h => by
  rw [hasJ, List.getElem?_replicate] at h
  split at h <;> cases h
 exact ⟨hT, List.length_replicate, fun i j h => (no i j h).elim, fun i j h => (no i j h).elim, fun i j h => (no i j h).elim, fun a h => by simp at h, fun i j h => (no i j h).elim, fun f j a ja h => (no f j h).elim, ⟨rfl, rfl⟩, Int.le_refl _⟩
theorem pl_new {T : List Tk} (RM : RA h col r st) : RA (h.new (.cells [.ptr r 0, .fz k (tks T), .int .i64 0, .nils] true 0)) (cadd col h.next 200) r st ∧ PAt (h.new (.cells [.ptr r 0, .fz k (tks T), .int .i64 0, .nils] true 0)) (cadd col h.next 200) h.next r k T 0 [] .nils :=
 ⟨RM.keep (K := fun _ => False) (Kc.nil ((Fr.refl h []).new) 200) (fun _ _ _ h => h) (fun _ _ h => h), ⟨Nat.lt_succ_self _, cadd_new (Nat.le_refl _), get_new_same, .inl ⟨rfl, rfl⟩⟩⟩
end
def Fre (T : List Tk) (js : Js) (L : List En) (R : List Nat) (t a : Nat) : Prop := ∀ f jf jt, hasJ js f jf → hasJ js t jt → f ∉ R → (f = t ∨ ah (f, jf.e) (t, jt.e) = true) → ∀ x ∈ L, x.1 = ((a : Nat) : Int) → ceil T x.2 < lvl T f
def Wt (T : List Tk) (js : Js) (L : List En) (R : List Nat) (had : Nat → Nat → Bool) (by' : Nat → Nat) : Prop :=
 ∀ t jt, hasJ js t jt → t ∉ R → ∀ R1 a R2 ja, R = R1 ++ a :: R2 → hasJ js a ja → ah (t, jt.e) (a, ja.e) = true →
  Fre T js L R t a ∨ ((∀ b ∈ R1, ∀ jb, hasJ js b jb → ah (t, jt.e) (b, jb.e) = false) ∧ had t a = true ∧ (by' t = 0 ∨ by' t = a + 1))
section
variable {T : List Tk} {js js' : Js} {L L' : List En} {now : Int} {R R' : List Nat} {o o' : List Nat} {had had' : Nat → Nat → Bool} {by' by2 : Nat → Nat} {i a : Nat} {j : Jb}
set_option smartUnfolding true in
theorem Sk.ceil : ∀ {R : List Nat} {L : List En} {o : List Nat}, Sk T js R L o → ∀ R1 b R2, R = R1 ++ b :: R2 → ∀ a ∈ R2, ∀ x ∈ L, x.1 = ((a : Nat) : Int) → ceil T x.2 < lvl T b
 | [], L, o, h, R1, b, R2, e => by cases R1 <;> cases e
 | c :: R, L, o, ⟨L0, L1, o0, h1, h2, h3, h4, h5, h6, h7⟩, R1, b, R2, e => by
  intro a ha x hx hxa
  have hca : c ≠ a := by
   intro e2
   subst e2
   cases R1 with
   | nil => cases e; exact h5 ha
   | cons d R1 => cases e; exact h5 (by simp [ha])
  have hx0 : x ∈ L0 := by
   rw [h1] at hx
   rcases List.mem_append.1 hx with h | h
   ·exact h
   ·have := h3 x h
    omega
  cases R1 with
  | nil => cases e; exact h4 x hx0
  | cons d R1 => cases e; exact h7.ceil R1 b R2 rfl a ha x hx0 hxa
theorem held_ne {x : En} (h : x ∈ L) (e : x.1 = ((a : Nat) : Int)) : heldL L ((a : Nat) : Int) ≠ [] := by
 intro h0
 have : x.2 ∈ heldL L ((a : Nat) : Int) := by
  rw [heldL]
  exact List.mem_map.2 ⟨x, List.mem_filter.2 ⟨h, by simpa using e⟩, rfl⟩
 rw [h0] at this
 simp at this
theorem fre_none {t : Nat} (h : heldL L ((a : Nat) : Int) = []) : Fre T js L R t a := fun f jf jt _ _ _ _ x hx e => (held_ne hx e h).elim
theorem Wt.check (W : Wt T js L (a :: R) had by') (hb : Blk T js L (a :: R) a) {t : Nat} {jt ja : Jb} (ht : hasJ js t jt) (ha : hasJ js a ja) (hn : t ∉ a :: R) (h : ah (t, jt.e) (a, ja.e) = true) :
  heldL L ((a : Nat) : Int) ≠ [] ∧ had t a = true ∧ (by' t = 0 ∨ by' t = a + 1) := by
 obtain ⟨f, jf, f1, f2, f3, f4⟩ := hb t jt ja ht ha hn h
 refine ⟨fun h0 => f4 fun x hx e => (held_ne hx e h0).elim, ?_⟩
 rcases W t jt ht hn [] a R ja rfl ha h with hf | ⟨_, h2⟩
 ·exact (f4 (hf f jf jt f1 ht f2 f3)).elim
 ·exact h2
theorem Wt.set (W : Wt T js L (a :: R) had by') {t : Nat} {jt ja : Jb} (ht : hasJ js t jt) (ha : hasJ js a ja) (hb : Blk T js L (a :: R) a) (hn : t ∉ a :: R) (h : ah (t, jt.e) (a, ja.e) = true) : Wt T js L (a :: R) had (fun k => if k = t then a + 1 else by' k) := by
 intro t' jt' ht' hn' R1 b R2 jb e hjb hah
 by_cases et : t' = t
 ·subst et
  cases R1 with
  | nil =>
   cases e
   obtain ⟨_, h2, _⟩ := W.check hb ht ha hn h
   exact .inr ⟨by simp, h2, .inr (if_pos rfl)⟩
  | cons c R1 =>
   cases e
   rcases W t' jt' ht' hn' (a :: R1) b R2 jb rfl hjb hah with h1 | ⟨h1, _⟩
   ·exact .inl h1
   ·have := h1 a (by simp) ja ha
    rw [ht'.eq ht, h] at this
    cases this
 ·rcases W t' jt' ht' hn' R1 b R2 jb e hjb hah with h1 | ⟨h1, h2, h3⟩
  ·exact .inl h1
  ·exact .inr ⟨h1, h2, by simpa [et] using h3⟩
theorem Wt.hd (W : Wt T js L R had by') (h : ∀ t k, had t k = true → heldL L ((k : Nat) : Int) ≠ [] → k ∈ R → (∃ j, hasJ js t j) → had' t k = true) : Wt T js L R had' by' := by
 intro t jt ht hn R1 a R2 ja e hja hah
 by_cases h0 : heldL L ((a : Nat) : Int) = []
 ·exact .inl (fre_none h0)
 ·rcases W t jt ht hn R1 a R2 ja e hja hah with h1 | ⟨h1, h2, h3⟩
  ·exact .inl h1
  ·exact .inr ⟨h1, h t a h2 h0 (by rw [e]; simp) ⟨jt, ht⟩, h3⟩
set_option smartUnfolding true in
theorem Wt.mv (W : Wt T js L R had by') (hnd : R.Nodup) (M : Mv T js L R js' L' R') : Wt T js' L' R' had by' := by
 rcases M with ⟨rfl, rfl, rfl⟩ | ⟨a, R2, ⟨hG, hB⟩, (⟨rfl, E, hL⟩ | ⟨rfl, rfl, rfl⟩)⟩
 ·exact W
 ·
  intro t jt ht hn R1 b R3 jb e hjb hah
  obtain ⟨jt0, ht0, et⟩ := E.1 t jt ht
  obtain ⟨jb0, hjb0, eb⟩ := E.1 b jb hjb
  rw [← et, ← eb] at hah
  have lift : b ≠ a → (∀ f, f ∉ a :: R2 → f ∉ R) → Fre T js L R t b → Fre T js' L' (a :: R2) t b := by
   intro hba hR hf f jf jt1 h1 h2 h3 h4 x hx hxb
   obtain ⟨jf0, hf0, ef⟩ := E.1 f jf h1
   have hxL : x ∈ L := (hL x hx).resolve_left fun h => hba (by omega)
   refine hf f jf0 jt0 hf0 ht0 (hR f h3) ?_ x hxL hxb
   rw [ht.eq h2] at et
   rw [ef, et]
   exact h4
  have hno : ∀ (R1' : List Nat), (∀ c ∈ R1', ∀ jc, hasJ js c jc → ah (t, jt0.e) (c, jc.e) = false) → ∀ c ∈ R1', ∀ jc, hasJ js' c jc → ah (t, jt.e) (c, jc.e) = false := by
   intro R1' h c hc jc hjc
   obtain ⟨jc0, hc0, ec⟩ := E.1 c jc hjc
   rw [← et, ← ec]
   exact h c hc jc0 hc0
  rcases hG with hR | ⟨haR, ⟨j, F⟩, hR⟩
  ·subst hR
   cases R1 with
   | nil =>
    cases e
    obtain ⟨_, h2⟩ := W.check hB ht0 hjb0 hn hah
    exact .inr ⟨by simp, h2⟩
   | cons c R1 =>
    cases e
    have hba : b ≠ a := by
     intro h
     subst h
     exact (List.nodup_cons.1 hnd).1 (by simp)
    rcases W t jt0 ht0 hn (a :: R1) b R3 jb0 rfl hjb0 hah with h1 | ⟨h1, h2⟩
    ·exact .inl (lift hba (fun f h => h) h1)
    ·exact .inr ⟨hno _ h1, h2⟩
  ·subst hR
   cases R1 with
   | nil =>
    cases e
    rw [hjb0.eq F.1, F.2 t jt0 ht0] at hah
    cases hah
   | cons c R1 =>
    cases e
    have hba : b ≠ a := fun h => haR (by rw [← h]; simp)
    have hnR : t ∉ R1 ++ b :: R3 := fun h => hn (by simp at h ⊢; exact .inr h)
    rcases W t jt0 ht0 hnR R1 b R3 jb0 rfl hjb0 hah with h1 | ⟨h1, h2⟩
    ·exact .inl (lift hba (fun f h h' => h (List.mem_cons_of_mem _ h')) h1)
    ·refine .inr ⟨hno _ fun c hc jc hjc => ?_, h2⟩
     rcases List.mem_cons.1 hc with rfl | hc
     ·rw [hjc.eq F.1, F.2 t jt0 ht0]
     ·exact h1 c hc jc hjc
 ·
  intro t jt ht hn R1 b R3 jb e hjb hah
  have old : ∀ {n jn}, hasJ (js.set a none) n jn → n ≠ a ∧ hasJ js n jn := fun h => by
   rcases hasJ_set.1 h with ⟨_, _, b⟩ | h
   ·cases b
   ·exact h
  have lift : (∀ f, f ≠ a → f ∉ R' → f ∉ R) → Fre T js L R t b → Fre T (js.set a none) (dropL L ((a : Nat) : Int)) R' t b := by
   intro hR hf f jf jt1 h1 h2 h3 h4 x hx hxb
   exact hf f jf jt1 (old h1).2 (old h2).2 (hR f (old h1).1 h3) h4 x (List.mem_filter.1 hx).1 hxb
  rcases hG with hR | ⟨haR, _, hR⟩
  ·subst hR
   rcases W t jt (old ht).2 (fun h => (List.mem_cons.1 h).elim (old ht).1 hn) (a :: R1) b R3 jb (by rw [e]; rfl) (old hjb).2 hah with h1 | ⟨h1, h2⟩
   ·exact .inl (lift (fun f h h' h'' => (List.mem_cons.1 h'').elim h h') h1)
   ·exact .inr ⟨fun c hc jc hjc => h1 c (List.mem_cons_of_mem _ hc) jc (old hjc).2, h2⟩
  ·subst hR
   rcases W t jt (old ht).2 hn R1 b R3 jb e (old hjb).2 hah with h1 | ⟨h1, h2⟩
   ·exact .inl (lift (fun f _ h => h) h1)
   ·exact .inr ⟨fun c hc jc hjc => h1 c hc jc (old hjc).2, h2⟩
theorem ah_trans {x y z : Id} (h1 : ah x y = true) (h2 : ah y z = true) : ah x z = true := by
 rw [ah_iff] at *
 omega
theorem Wt.rel {t0 : Tk} {j' : Jb} (W : Wt T js L R had by') (I : Inv T js L now R o) (I2 : Inv T (js.set i (some j')) L now R o) (h0 : js[i]? = some none) (h2 : j'.t = t0) (h4 : j'.e = now + t0.d)
  (hh : ∀ k ∈ R, heldL L ((k : Nat) : Int) ≠ [] → had' i k = true) (ho : ∀ t k, t ≠ i → had' t k = had t k) (hb : by2 i = 0) (hbo : ∀ t, t ≠ i → by2 t = by' t) : Wt T (js.set i (some j')) L R had' by2 := by
 have hil : i < js.length := (List.getElem?_eq_some_iff.1 h0).1
 have hnew : hasJ (js.set i (some j')) i j' := hasJ_set.2 (.inl ⟨rfl, hil, rfl⟩)
 have old : ∀ {n jn}, hasJ (js.set i (some j')) n jn → (n = i ∧ jn = j') ∨ (n ≠ i ∧ hasJ js n jn) := fun h => by
  rcases hasJ_set.1 h with ⟨a, _, b⟩ | h
  ·exact .inl ⟨a, (Option.some.inj b).symm⟩
  ·exact .inr h
 have hiR : i ∉ R := fun h => by
  obtain ⟨j, hj⟩ := I.rj i h
  rw [hasJ, h0] at hj
  cases hj
 intro t jt ht hn R1 a R2 ja e hja hah
 by_cases hheld : heldL L ((a : Nat) : Int) = []
 ·exact .inl (fre_none hheld)
 rcases old ht with ⟨rfl, rfl⟩ | ⟨hti, ht'⟩
 ·by_cases hex : ∀ b ∈ R1, ∀ jb, hasJ (js.set t (some jt)) b jb → ah (t, jt.e) (b, jb.e) = false
  ·exact .inr ⟨hex, hh a (by rw [e]; simp) hheld, .inl hb⟩
  ·left
   simp only [Classical.not_forall] at hex
   obtain ⟨b, hb1, jb, hjb, hb2⟩ := hex
   have hb2 : ah (t, jt.e) (b, jb.e) = true := by
    cases h : ah (t, jt.e) (b, jb.e) with
    | true => rfl
    | false => exact absurd h hb2
   obtain ⟨S1, S2, hS⟩ := List.append_of_mem hb1
   have hR : R = S1 ++ b :: (S2 ++ a :: R2) := by rw [e, hS, List.append_assoc]; rfl
   intro f jf jt1 hf hjt1 hfR hor x hx hxa
   rw [hjt1.eq hnew] at hor
   have hfb : ah (f, jf.e) (b, jb.e) = true := by
    rcases hor with rfl | h
    ·rw [hf.eq hnew]; exact hb2
    ·exact ah_trans h hb2
   have hd := I2.nf f jf b jb hf hfR (by rw [hR]; simp) hjb hfb
   have := lvl_mono (I2.tk f jf hf) (I2.tk b jb hjb) hd
   have := I.sk.ceil S1 b _ hR a (by simp) x hx hxa
   omega
 ·have hja' : hasJ js a ja := by
   rcases old hja with ⟨rfl, _⟩ | ⟨_, h⟩
   ·exact absurd (by rw [e]; simp) hiR
   ·exact h
  rcases W t jt ht' hn R1 a R2 ja e hja' hah with h1 | ⟨h1, h2', h3⟩
  ·left
   intro f jf jt1 hf hjt1 hfR hor x hx hxa
   have ejt : jt1 = jt := hjt1.eq ht
   subst ejt
   rcases old hf with ⟨rfl, rfl⟩ | ⟨hfi, hf'⟩
   ·rcases hor with h | h
    ·exact absurd h.symm hti
    ·have q := I.e t jt1 ht'
     rw [ah_iff] at h
     simp only [h4] at h
     have hd : t0.d ≤ jt1.t.d := by omega
     have htk := I2.tk f jf hf
     rw [h2] at htk
     have := lvl_mono htk (I.tk t jt1 ht') hd
     have := h1 t jt1 jt1 ht' ht' hn (.inl rfl) x hx hxa
     omega
   ·exact h1 f jf jt1 hf' ht' hfR hor x hx hxa
  ·refine .inr ⟨fun b hb' jb hjb => ?_, by rw [ho t a hti]; exact h2', by rw [hbo t hti]; exact h3⟩
   rcases old hjb with ⟨rfl, _⟩ | ⟨_, h⟩
   ·exact absurd (by rw [e]; simp [hb']) hiR
   ·exact h1 b hb' jb h
end
def hF (f : Nat → Bool) (t k : Nat) : Bool := decide (k < 4) && f (t * 4 + k)
def updf {α : Type} (f : Nat → α) (c : Nat) (v : α) : Nat → α := fun x => if x = c then v else f x
def mapC {α : Type} (en : α → AV) (N : Nat) (f : Nat → α) : List AV := (List.range N).map fun c => en (f c)
theorem mapC_get {α : Type} {en : α → AV} {N c : Nat} {f : Nat → α} (h : c < N) : (mapC en N f)[c]? = some (en (f c)) := by
 rw [mapC, List.getElem?_map, List.getElem?_range h]; rfl
theorem mapC_len {α : Type} {en : α → AV} {N : Nat} {f : Nat → α} : (mapC en N f).length = N := by simp [mapC]
theorem mapC_set {α : Type} {en : α → AV} {N c : Nat} {f : Nat → α} (h : c < N) (v : α) : Heap.splice (mapC en N f) c [en v] = mapC en N (updf f c v) := by
 rw [splice_at _ _ _ (by rw [mapC_len]; exact h)]
 apply List.ext_getElem?
 intro i
 rw [List.getElem?_set]
 by_cases e : c = i
 ·subst e
  rw [if_pos rfl, if_pos (by rw [mapC_len]; exact h), mapC_get h, updf, if_pos rfl]
 ·rw [if_neg e]
  by_cases hi : i < N
  ·rw [mapC_get hi, mapC_get hi, updf, if_neg (fun h => e h.symm)]
  ·rw [List.getElem?_eq_none (by rw [mapC_len]; omega), List.getElem?_eq_none (by rw [mapC_len]; omega)]
def byI (n : Nat) : AV := .int .i64 ((n : Nat) : Int)
structure WA (h : Heap) (col : Nat → Nat) (b9 b10 : Nat) (f : Nat → Bool) (g : Nat → Nat) : Prop where
 l9 : b9 < h.next
 c9 : col b9 = 202
 g9 : h.get b9 = some (.cells (mapC AV.bool 16 f) true 0)
 l10 : b10 < h.next
 c10 : col b10 = 203
 g10 : h.get b10 = some (.cells (mapC byI 4 g) true 0)
section
variable {h h' h0 : Heap} {col col' : Nat → Nat} {p r k b9 b10 : Nat} {now : Int} {R o : List Nat} {st : St} {f f0 : Nat → Bool} {g g0 : Nat → Nat}
theorem WA.keep {K : Nat → Prop} (W : WA h col b9 b10 f g) (fr : Kc h h' col col' K) (h1 : ¬ K 202) (h2 : ¬ K 203) : WA h' col' b9 b10 f g :=
 ⟨Nat.lt_of_lt_of_le W.l9 fr.next, (fr.col b9 W.l9).trans W.c9, (fr.keep b9 W.l9 (by rw [W.c9]; exact h1)).trans W.g9, Nat.lt_of_lt_of_le W.l10 fr.next, (fr.col b10 W.l10).trans W.c10, (fr.keep b10 W.l10 (by rw [W.c10]; exact h2)).trans W.g10⟩
theorem WA.nil (W : WA h col b9 b10 f g) (fr : Fr h h' []) : WA h' col b9 b10 f g := W.keep (K := fun _ => False) (Kc.same fr) id id
theorem WA.pk (W : WA h col b9 b10 f g) (fr : Kc h h' col col' PK) : WA h' col' b9 b10 f g :=
 W.keep fr (fun h => by rcases h with ⟨_, h⟩ | h | h | h <;> omega) (fun h => by rcases h with ⟨_, h⟩ | h | h | h <;> omega)
theorem Pl.kw {K : Nat → Prop} (P : Pl h col p r k st now R o) (fr : Kc h h' col col' K) (hK : ∀ n, K n → 202 ≤ n) : Pl h' col' p r k st now R o :=
 ⟨P.at'.imp fun _ a => a.keep fr (fun h => by have := hK _ h; omega) (fun h => by have := hK _ h; omega), P.room.pk fr (fun n h => by have := hK n h; omega), P.inv⟩
theorem WA.ldH (W : WA h col b9 b10 f g) {t n : Nat} (ht : t < 4) (hn : n < 4) : rV .load1 [.ptr b9 (0 + t * 4 + n * 1)] h = some (.bool (f (t * 4 + n))) :=
 ld1 W.g9 (by rw [show 0 + t * 4 + n * 1 = t * 4 + n by omega]; exact mapC_get (by omega))
theorem WA.ldB (W : WA h col b9 b10 f g) {t : Nat} (ht : t < 4) : rV .load1 [.ptr b10 (0 + t * 1)] h = some (byI (g t)) :=
 ld1 W.g10 (by rw [show 0 + t * 1 = t by omega]; exact mapC_get ht)
theorem WA.stH (W : WA h col b9 b10 f g) {t n : Nat} (ht : t < 4) (hn : n < 4) (v : Bool) : ∃ h', eV (.store 1) [.ptr b9 (0 + t * 4 + n * 1), .bool v] h = some (.undef, h') ∧ WA h' col b9 b10 (updf f (t * 4 + n) v) g ∧ Kc h h' col col (· = 202) := by
 have hst := sto_o (o := 0 + t * 4 + n * 1) (n := 1) (v := .bool v) W.g9 rfl (by rw [mapC_len]; omega) rfl
 rw [show 0 + t * 4 + n * 1 = t * 4 + n by omega] at hst ⊢
 have hne : b10 ≠ b9 := by intro e; have := W.c10; rw [e, W.c9] at this; omega
 refine ⟨_, hst, ⟨W.l9, W.c9, ?_, W.l10, W.c10, (get_set_ne hne).trans W.g10⟩, ⟨Nat.le_refl _, fun c _ hn => get_set_ne (fun e => hn (by rw [e]; exact W.c9)), fun _ _ => rfl⟩⟩
 rw [get_set_same, show (AV.bool v).cells = [AV.bool v] from rfl, mapC_set (by omega)]
theorem WA.stB (W : WA h col b9 b10 f g) {t : Nat} (ht : t < 4) (v : Nat) : ∃ h', eV (.store 1) [.ptr b10 (0 + t * 1), byI v] h = some (.undef, h') ∧ WA h' col b9 b10 f (updf g t v) ∧ Kc h h' col col (· = 203) := by
 have hst := sto_o (o := 0 + t * 1) (n := 1) (v := byI v) W.g10 rfl (by rw [mapC_len]; omega) rfl
 rw [show 0 + t * 1 = t by omega] at hst ⊢
 have hne : b9 ≠ b10 := by intro e; have := W.c9; rw [e, W.c10] at this; omega
 refine ⟨_, hst, ⟨W.l9, W.c9, (get_set_ne hne).trans W.g9, W.l10, W.c10, ?_⟩, ⟨Nat.le_refl _, fun c _ hn => get_set_ne (fun e => hn (by rw [e]; exact W.c10)), fun _ _ => rfl⟩⟩
 rw [get_set_same, show (byI v).cells = [byI v] from rfl, mapC_set (by omega)]
def wE (hv : AV) (k : Nat) (T : List Tk) (r p b9 b10 : Nat) (J : Int) : List (Nat × AV) := [(1, hv), (5, .fz k (tks T)), (6, .ptr r 0), (8, .ptr p 0), (9, .ptr b9 0), (10, .ptr b10 0), (11, .int .i64 J)]
theorem w1 {B i : Nat} {hv : AV} {J : Int} {Q : AX → Env → Heap → Prop} (hi : i < st.T.length) (hL : st.L.length ≤ 1000)
  (hQ : ∀ h f g e, Pl h col p r k st now R o → WA h col b9 b10 f g → (∀ n, n < st.T.length → heldL st.L ((n : Nat) : Int) ≠ [] → (∃ j, hasJ st.j n j) → f (i * 4 + n) = true) → (∀ c, (c < i * 4 ∨ i * 4 + 4 ≤ c) → f c = f0 c) → g i = 0 → (∀ t, t ≠ i → g t = g0 t) →
   AllAt e (wE hv k st.T r p b9 b10 J) → Q (.exit 2) e h) :
  ∀ (m n : Nat) (h : Heap) (f : Nat → Bool) (g : Nat → Nat) (env : Env), st.T.length - n = m → n ≤ st.T.length → Pl h col p r k st now R o → WA h col b9 b10 f g → (∀ x, x < n → heldL st.L ((x : Nat) : Int) ≠ [] → (∃ j, hasJ st.j x j) → f (i * 4 + x) = true) →
   (∀ c, (c < i * 4 ∨ i * 4 + 4 ≤ c) → f c = f0 c) → (0 < n → g i = 0) → (∀ t, t ≠ i → g t = g0 t) →
   AllAt env (wE hv k st.T r p b9 b10 J ++ [(13, .int .i64 ((i : Nat) : Int)), (15, .bool false), (17, .bool true), (18, .int .i64 ((n : Nat) : Int))]) → VC fs ms B false (.loop L_escapementlaw18_RoomWaits_1) env h Q := by
 intro m
 induction m using Nat.strongRecOn with
 | ind m ih =>
 intro n h f g env hm hn P W h1 h2 h3 h4 henv
 have hn4 := P.inv.n4
 refine vc_slots 5 _ henv ?_
 refine vc_loop (z := true) ?_
 unfold wE
 conv => whnf
 have hct : decide (((n : Nat) : Int) < (((tks st.T).length : Nat) : Int)) = decide (n < st.T.length) := by rw [len_tks]; simp
 cases c : decide (n < st.T.length) with
 | false =>
  refine brf (hct.trans c) (fun hc => ?_)
  (try rw [hc])
  conv => whnf
  have he : n = st.T.length := by have := of_decide_eq_false c; omega
  subst he
  exact hQ _ _ _ _ P W h1 h2 (h3 (by omega)) h4 ⟨rfl, rfl, rfl, rfl, rfl, rfl, rfl, trivial⟩
 | true =>
  refine brt (hct.trans c) (fun hc => ?_)
  (try rw [hc])
  conv => whnf
  have hlt : n < st.T.length := of_decide_eq_true c
  refine rheld_any P.room hL hlt fun h1' v l hr fr hx _ he => ?_
  conv => whnf
  refine opt_go hr.read.1 ?_
  conv => whnf
  refine ⟨_, idx_arr (by omega), ?_⟩
  conv => whnf
  refine ⟨_, idx_arr (by omega), ?_⟩
  conv => whnf
  obtain ⟨h2', s1, W2, f2⟩ := (W.nil fr).stH (t := i) (n := n) (by omega) (by omega) (decide (((l.length : Nat) : Int) > 0))
  refine ⟨_, _, s1, ?_⟩
  conv => whnf
  refine ⟨_, idx_arr (by omega), ?_⟩
  conv => whnf
  obtain ⟨h3', s2, W3, f3⟩ := W2.stB (t := i) (by omega) 0
  refine ⟨_, _, s2, ?_⟩
  conv => whnf
  have P3 := ((P.nil fr).kw f2 (fun n h => by omega)).kw f3 (fun n h => by omega)
  refine ih (st.T.length - (n + 1)) (by omega) (n + 1) _ _ _ _ rfl (by omega) P3 W3 (fun x hx' hne hjb => ?_) (fun c hc => ?_) (fun _ => by rw [updf, if_pos rfl]) (fun t ht => by rw [updf, if_neg ht]; exact h4 t ht) ⟨rfl, rfl, rfl, rfl, rfl, rfl, rfl, rfl, rfl, rfl, inc_slot (by omega), trivial⟩
  ·rw [updf]
   by_cases e : x = n
   ·subst e
    rw [if_pos rfl]
    obtain ⟨j, hj⟩ := hjb
    rw [he j hj]
    refine decide_eq_true ?_
    have := List.length_pos_iff.2 hne
    omega
   ·rw [if_neg (by omega)]
    exact h1 x (by omega) hne hjb
  ·rw [updf, if_neg (by omega)]
   exact h2 c hc
theorem w2 {B a : Nat} {hv : AV} {J x : Int} {ja : Jb} {R0 : List Nat} {Q : AX → Env → Heap → Prop} (hL : st.L.length ≤ 1000) (hja : hasJ st.j a ja) (ha : a < st.T.length)
  (hC : ∀ t jt, hasJ st.j t jt → jt.e < ja.e → t ≠ a → heldL st.L ((a : Nat) : Int) ≠ [] ∧ ∀ g, Wt st.T st.j st.L R0 (hF f) g → hF f t a = true ∧ (g t = 0 ∨ g t = a + 1) ∧ Wt st.T st.j st.L R0 (hF f) (fun k => if k = t then a + 1 else g k))
  (hQ : ∀ h g e, Pl h col p r k st now R o → WA h col b9 b10 f g → Wt st.T st.j st.L R0 (hF f) g → AllAt e (wE hv k st.T r p b9 b10 J ++ [(12, .int .i64 x)]) → Q (.exit 4) e h) :
  ∀ (m n : Nat) (h : Heap) (g : Nat → Nat) (env : Env), st.T.length - n = m → n ≤ st.T.length → Pl h col p r k st now R o → WA h col b9 b10 f g → Wt st.T st.j st.L R0 (hF f) g →
   AllAt env (wE hv k st.T r p b9 b10 J ++ [(12, .int .i64 x), (19, .int .i64 ((a : Nat) : Int)), (20, .bool true), (21, .int .i64 ja.e), (22, .bool true), (23, .int .i64 ((n : Nat) : Int))]) → VC fs ms B false (.loop L_escapementlaw18_RoomWaits_2) env h Q := by
 intro m
 induction m using Nat.strongRecOn with
 | ind m ih =>
 intro n h g env hm hn P W w henv
 have hn4 := P.inv.n4
 refine vc_slots 5 _ henv ?_
 refine vc_loop (z := true) ?_
 unfold wE
 conv => whnf
 have hct : decide (((n : Nat) : Int) < (((tks st.T).length : Nat) : Int)) = decide (n < st.T.length) := by rw [len_tks]; simp
 cases c : decide (n < st.T.length) with
 | false =>
  refine brf (hct.trans c) (fun hc => ?_)
  (try rw [hc])
  conv => whnf
  exact hQ _ _ _ P W w ⟨rfl, rfl, rfl, rfl, rfl, rfl, rfl, rfl, trivial⟩
 | true =>
  refine brt (hct.trans c) (fun hc => ?_)
  (try rw [hc])
  conv => whnf
  have hlt : n < st.T.length := of_decide_eq_true c
  refine rdead_c P.room (fun hno => ?_) (fun t jt ht hjt => ?_)
  ·conv => whnf
   exact ih (st.T.length - (n + 1)) (by omega) (n + 1) _ _ _ rfl (by omega) P W w ⟨rfl, rfl, rfl, rfl, rfl, rfl, rfl, rfl, rfl, rfl, rfl, rfl, inc_slot (by omega), trivial⟩
  ·obtain rfl : n = t := by omega
   conv => whnf
   refine br (fun hc => ?_) (fun hc => ?_) <;> (try rw [hc]) <;> (conv => whnf)
   ·exact ih (st.T.length - (n + 1)) (by omega) (n + 1) _ _ _ rfl (by omega) P W w ⟨rfl, rfl, rfl, rfl, rfl, rfl, rfl, rfl, rfl, rfl, rfl, rfl, inc_slot (by omega), trivial⟩
   ·have hlte : jt.e < ja.e := by have := of_decide_eq_false hc; omega
    refine br (fun hc => ?_) (fun hc => ?_) <;> (try rw [hc]) <;> (conv => whnf)
    ·exact ih (st.T.length - (n + 1)) (by omega) (n + 1) _ _ _ rfl (by omega) P W w ⟨rfl, rfl, rfl, rfl, rfl, rfl, rfl, rfl, rfl, rfl, rfl, rfl, inc_slot (by omega), trivial⟩
    ·have hne : n ≠ a := by
      rintro rfl
      simp at hc
     obtain ⟨c1, c2⟩ := hC n jt hjt hlte hne
     obtain ⟨c3, c4, c5⟩ := c2 g w
     rw [hF, Bool.and_eq_true, decide_eq_true_eq] at c3
     refine rheld_any P.room hL ha fun h1' v l hr fr hx _ he => ?_
     have W1 := W.nil fr
     conv => whnf
     refine opt_go hr.read.1 ?_
     conv => whnf
     refine brf (by rw [he ja hja]; have := List.length_pos_iff.2 c1; simp; omega) (fun hc => ?_)
     (try rw [hc])
     conv => whnf
     refine brf (decide_eq_false (by omega)) (fun hc => ?_)
     (try rw [hc])
     conv => whnf
     refine ⟨_, idx_arr (by omega), ?_⟩
     conv => whnf
     refine ⟨_, idx_arr (by omega), ?_⟩
     conv => whnf
     refine ⟨_, W1.ldH (by omega) (by omega), ?_⟩
     rw [c3.2]
     conv => whnf
     refine ⟨_, idx_arr (by omega), ?_⟩
     conv => whnf
     refine ⟨_, W1.ldB (by omega), ?_⟩
     have fin : ∀ (K : Prop), (∀ (h2 : Heap), eV (.store 1) [.ptr b10 (0 + n * 1), .int .i64 (IntKind.i64.wrap (((a : Nat) : Int) + 1))] h1' = some (.undef, h2) → Pl h2 col p r k st now R o → WA h2 col b9 b10 f (updf g n (a + 1)) → K) → K := by
      intro K hK
      obtain ⟨h2', s2, W2, f2⟩ := W1.stB (t := n) (by omega) (a + 1)
      have ew : IntKind.i64.wrap (((a : Nat) : Int) + 1) = ((a + 1 : Nat) : Int) := by rw [IntWalk.i64_in _ (by omega)]; omega
      exact hK h2' (by rw [ew]; exact s2) ((P.nil fr).kw f2 (fun n h => by omega)) W2
     have c5 : Wt st.T st.j st.L R0 (hF f) (updf g n (a + 1)) := c5
     unfold byI
     rcases c4 with e0 | e1
     ·rw [e0]
      conv => whnf
      refine ⟨_, idx_arr (by omega), ?_⟩
      conv => whnf
      refine fin _ fun h2 s2 P2 W2 => ⟨_, _, s2, ?_⟩
      conv => whnf
      exact ih (st.T.length - (n + 1)) (by omega) (n + 1) _ _ _ rfl (by omega) P2 W2 c5 ⟨rfl, rfl, rfl, rfl, rfl, rfl, rfl, rfl, rfl, rfl, rfl, rfl, inc_slot (by omega), trivial⟩
     ·rw [e1]
      conv => whnf
      refine ⟨_, idx_arr (by omega), ?_⟩
      conv => whnf
      refine ⟨_, W1.ldB (by omega), ?_⟩
      unfold byI
      rw [e1]
      conv => whnf
      refine brf (by rw [IntWalk.i64_in _ (by omega)]; simp) (fun hc => ?_)
      (try rw [hc])
      conv => whnf
      refine ⟨_, idx_arr (by omega), ?_⟩
      conv => whnf
      refine fin _ fun h2 s2 P2 W2 => ⟨_, _, s2, ?_⟩
      conv => whnf
      exact ih (st.T.length - (n + 1)) (by omega) (n + 1) _ _ _ rfl (by omega) P2 W2 c5 ⟨rfl, rfl, rfl, rfl, rfl, rfl, rfl, rfl, rfl, rfl, rfl, rfl, inc_slot (by omega), trivial⟩
theorem w4 {B t : Nat} {hv : AV} {J : Int} {Q : AX → Env → Heap → Prop} (ht : t < st.T.length) (hL : st.L.length ≤ 1000)
  (hQ : ∀ h f e, Pl h col p r k st now R o → WA h col b9 b10 f g → (∀ x y, x < 4 → y < 4 → f0 (x * 4 + y) = true → heldL st.L ((y : Nat) : Int) ≠ [] → (∃ j, hasJ st.j y j) → f (x * 4 + y) = true) →
   AllAt e (wE hv k st.T r p b9 b10 J ++ [(26, .int .i64 ((t : Nat) : Int))]) → Q (.exit 8) e h) :
  ∀ (m n : Nat) (h : Heap) (f : Nat → Bool) (env : Env), st.T.length - n = m → n ≤ st.T.length → Pl h col p r k st now R o → WA h col b9 b10 f g →
   (∀ x y, x < 4 → y < 4 → f0 (x * 4 + y) = true → heldL st.L ((y : Nat) : Int) ≠ [] → (∃ j, hasJ st.j y j) → f (x * 4 + y) = true) →
   AllAt env (wE hv k st.T r p b9 b10 J ++ [(26, .int .i64 ((t : Nat) : Int)), (27, .int .i64 ((n : Nat) : Int))]) → VC fs ms B false (.loop L_escapementlaw18_RoomWaits_4) env h Q := by
 intro m
 induction m using Nat.strongRecOn with
 | ind m ih =>
 intro n h f env hm hn P W w henv
 have hn4 := P.inv.n4
 refine vc_slots 5 _ henv ?_
 refine vc_loop (z := true) ?_
 unfold wE
 conv => whnf
 have hct : decide (((n : Nat) : Int) < (((tks st.T).length : Nat) : Int)) = decide (n < st.T.length) := by rw [len_tks]; simp
 cases c : decide (n < st.T.length) with
 | false =>
  refine brf (hct.trans c) (fun hc => ?_)
  (try rw [hc])
  conv => whnf
  exact hQ _ _ _ P W w ⟨rfl, rfl, rfl, rfl, rfl, rfl, rfl, rfl, trivial⟩
 | true =>
  refine brt (hct.trans c) (fun hc => ?_)
  (try rw [hc])
  conv => whnf
  have hlt : n < st.T.length := of_decide_eq_true c
  refine ⟨_, idx_arr (by omega), ?_⟩
  conv => whnf
  refine ⟨_, idx_arr (by omega), ?_⟩
  conv => whnf
  refine ⟨_, W.ldH (by omega) (by omega), ?_⟩
  have fin : ∀ (h1 : Heap) (v : Bool), Fr h h1 [] → (∀ x y, x < 4 → y < 4 → f0 (x * 4 + y) = true → heldL st.L ((y : Nat) : Int) ≠ [] → (∃ j, hasJ st.j y j) → updf f (t * 4 + n) v (x * 4 + y) = true) → ∀ (K : Prop),
    (∀ (h2 : Heap), eV (.store 1) [.ptr b9 (0 + t * 4 + n * 1), .bool v] h1 = some (.undef, h2) → Pl h2 col p r k st now R o → WA h2 col b9 b10 (updf f (t * 4 + n) v) g → K) → K := by
   intro h1 v fr hw K hK
   obtain ⟨h2', s2, W2, f2⟩ := (W.nil fr).stH (t := t) (n := n) (by omega) (by omega) v
   exact hK h2' s2 ((P.nil fr).kw f2 (fun n h => by omega)) W2
  cases hf : f (t * 4 + n) with
  | false =>
   have hw : ∀ x y, x < 4 → y < 4 → f0 (x * 4 + y) = true → heldL st.L ((y : Nat) : Int) ≠ [] → (∃ j, hasJ st.j y j) → updf f (t * 4 + n) false (x * 4 + y) = true := by
    intro x y hx hy h1 h2 h3
    have := w x y hx hy h1 h2 h3
    rw [updf]
    split
    ·rename_i e
     rw [e, hf] at this
     exact this
    ·exact this
   conv => whnf
   refine ⟨_, idx_arr (by omega), ?_⟩
   conv => whnf
   refine ⟨_, idx_arr (by omega), ?_⟩
   conv => whnf
   refine fin h false (Fr.refl _ _) hw _ fun h2 s2 P2 W2 => ⟨_, _, s2, ?_⟩
   conv => whnf
   exact ih (st.T.length - (n + 1)) (by omega) (n + 1) _ _ _ rfl (by omega) P2 W2 hw ⟨rfl, rfl, rfl, rfl, rfl, rfl, rfl, rfl, inc_slot (by omega), trivial⟩
  | true =>
   conv => whnf
   refine rheld_any P.room hL hlt fun h1' v l hr fr hx _ he => ?_
   have hw : ∀ x y, x < 4 → y < 4 → f0 (x * 4 + y) = true → heldL st.L ((y : Nat) : Int) ≠ [] → (∃ j, hasJ st.j y j) → updf f (t * 4 + n) (decide (((l.length : Nat) : Int) > 0)) (x * 4 + y) = true := by
    intro x y hx' hy h1 h2 h3
    have := w x y hx' hy h1 h2 h3
    rw [updf]
    split
    ·have e : y = n := by omega
     subst e
     obtain ⟨j, hj⟩ := h3
     rw [he j hj]
     refine decide_eq_true ?_
     have := List.length_pos_iff.2 h2
     omega
    ·exact this
   conv => whnf
   refine opt_go hr.read.1 ?_
   conv => whnf
   refine ⟨_, idx_arr (by omega), ?_⟩
   conv => whnf
   refine ⟨_, idx_arr (by omega), ?_⟩
   conv => whnf
   refine fin h1' _ fr hw _ fun h2 s2 P2 W2 => ⟨_, _, s2, ?_⟩
   conv => whnf
   exact ih (st.T.length - (n + 1)) (by omega) (n + 1) _ _ _ rfl (by omega) P2 W2 hw ⟨rfl, rfl, rfl, rfl, rfl, rfl, rfl, rfl, inc_slot (by omega), trivial⟩
theorem w3 {B : Nat} {hv : AV} {J : Int} {Q : AX → Env → Heap → Prop} (hL : st.L.length ≤ 1000)
  (hQ : ∀ h f e, Pl h col p r k st now R o → WA h col b9 b10 f g → (∀ x y, x < 4 → y < 4 → f0 (x * 4 + y) = true → heldL st.L ((y : Nat) : Int) ≠ [] → (∃ j, hasJ st.j y j) → f (x * 4 + y) = true) → AllAt e (wE hv k st.T r p b9 b10 J) → Q (.exit 6) e h) :
  ∀ (m t : Nat) (h : Heap) (f : Nat → Bool) (env : Env), st.T.length - t = m → t ≤ st.T.length → Pl h col p r k st now R o → WA h col b9 b10 f g →
   (∀ x y, x < 4 → y < 4 → f0 (x * 4 + y) = true → heldL st.L ((y : Nat) : Int) ≠ [] → (∃ j, hasJ st.j y j) → f (x * 4 + y) = true) →
   AllAt env (wE hv k st.T r p b9 b10 J ++ [(26, .int .i64 ((t : Nat) : Int))]) → VC fs ms B false (.loop L_escapementlaw18_RoomWaits_3) env h Q := by
 intro m
 induction m using Nat.strongRecOn with
 | ind m ih =>
 intro t h f env hm ht P W w henv
 have hn4 := P.inv.n4
 refine vc_slots 5 _ henv ?_
 refine vc_loopV (vc_seqV (vpC_sound (z := true) ?_))
 unfold wE
 conv => whnf
 have hct : decide (((t : Nat) : Int) < (((tks st.T).length : Nat) : Int)) = decide (t < st.T.length) := by rw [len_tks]; simp
 cases c : decide (t < st.T.length) with
 | false =>
  refine brf (hct.trans c) (fun hc => ?_)
  (try rw [hc])
  conv => whnf
  exact hQ _ _ _ P W w ⟨rfl, rfl, rfl, rfl, rfl, rfl, rfl, trivial⟩
 | true =>
  refine brt (hct.trans c) (fun hc => ?_)
  (try rw [hc])
  conv => whnf
  have hlt : t < st.T.length := of_decide_eq_true c
  refine vc_seqV (vc_block (vc_seq true ?_))
  conv => whnf
  refine vc_block ?_
  refine w4 (hv := hv) (J := J) (f0 := f0) hlt hL (fun h1 f1 e P1 W1 w1 he => ?_) st.T.length 0 _ _ _ rfl (Nat.zero_le _) P W w ⟨rfl, rfl, rfl, rfl, rfl, rfl, rfl, rfl, rfl, trivial⟩
  show VC fs ms _ _ _ _ _ _
  refine vc_slots 5 _ he (vpC_sound (z := true) ?_)
  unfold wE
  conv => whnf
  exact ih (st.T.length - (t + 1)) (by omega) (t + 1) _ _ _ rfl (by omega) P1 W1 w1 ⟨rfl, rfl, rfl, rfl, rfl, rfl, rfl, inc_slot (by omega), trivial⟩
end
section
variable {h h' h0 : Heap} {col col' : Nat → Nat} {p r k b9 b10 : Nat} {now : Int} {R o : List Nat} {st : St} {f f0 : Nat → Bool} {g g0 : Nat → Nat}
theorem step_rel {x : Int} (hx0 : 0 ≤ x) (hx : x < 9600) (P : Pl h col p r k st now R o) (hk : k = 3 → st.T = []) (hn0 : 0 ≤ now) (hn : now ≤ 500) (h3 : x % 3 = 0) (hT : st.T ≠ []) {i : Nat} (hi : ((i : Nat) : Int) = x / 3 % st.T.length) :
  VD fs ms f_escapementlaw18_play_step [.ptr p 0, .int .i64 x] h (fun v h' => v = .bool true ∧ ∃ col1 st1, Pl h' col1 p r k st1 now R o ∧ Kc h h' col col1 PK ∧
   (st1 = st ∨ ∃ tk gg, st.T[i]? = some tk ∧ st.j[i]? = some none ∧ IntKind.i64.wrap (now + tk.d) = now + tk.d ∧ st1 = { st with j := st.j.set i (some (jNew tk [opR] now)), g := gg })) :=
 step_c hx0 hx P hk hn0 hn (fun _ _ h' col' P' f => ⟨rfl, col', st, P', f, .inl rfl⟩)
  (fun _ _ i' tk gg hi' ht hj hw h' col' P' f => by
   obtain rfl : i = i' := by omega
   exact ⟨rfl, col', _, P', f, .inr ⟨tk, gg, ht, hj, hw, rfl⟩⟩)
  (fun hno => (hno ⟨h3, hT⟩).elim)
theorem step_do {x : Int} (hx0 : 0 ≤ x) (hx : x < 9600) (P : Pl h col p r k st now R o) (hk : k = 3 → st.T = []) (hn0 : 0 ≤ now) (hn : now ≤ 500) (h3 : ¬ (x % 3 = 0 ∧ st.T ≠ [])) :
  VD fs ms f_escapementlaw18_play_step [.ptr p 0, .int .i64 x] h (fun v h' => v = .bool true ∧ ∃ col1 js' L' R' o', Mv st.T st.j st.L R js' L' R' ∧ Pl h' col1 p r k { st with j := js', L := L' } (now + 1) R' o' ∧ Kc h h' col col1 PK) :=
 step_c hx0 hx P hk hn0 hn (fun a b => (h3 ⟨a, b⟩).elim) (fun a b => (h3 ⟨a, b⟩).elim) (fun _ h' col' js' L' R' o' m P' f => ⟨rfl, col', js', L', R', o', m, P', f⟩)
theorem w1z {B i : Nat} {hv : AV} {J : Int} {T : List Tk} {is was : Bool} {Q : AX → Env → Heap → Prop} {env : Env} (hT : 0 < T.length) (hb : (is && !was) = false)
  (hQ : ∀ e, AllAt e (wE hv k T r p b9 b10 J) → Q (.exit 2) e h) (henv : AllAt env (wE hv k T r p b9 b10 J ++ [(13, .int .i64 ((i : Nat) : Int)), (15, .bool was), (17, .bool is), (18, .int .i64 ((0 : Nat) : Int))])) :
  VC fs ms B false (.loop L_escapementlaw18_RoomWaits_1) env h Q := by
 refine vc_slots 5 _ henv ?_
 refine vc_loop (z := true) ?_
 unfold wE
 conv => whnf
 refine brt (by rw [len_tks]; simp; omega) (fun hc => ?_)
 (try rw [hc])
 conv => whnf
 cases is with
 | false =>
  conv => whnf
  exact hQ _ ⟨rfl, rfl, rfl, rfl, rfl, rfl, rfl, trivial⟩
 | true =>
  cases was with
  | false => cases hb
  | true =>
   conv => whnf
   exact hQ _ ⟨rfl, rfl, rfl, rfl, rfl, rfl, rfl, trivial⟩
theorem w2z {B : Nat} {hv : AV} {J x : Int} {T : List Tk} {Q : AX → Env → Heap → Prop} {env : Env}
  (hQ : ∀ e, AllAt e (wE hv k T r p b9 b10 J ++ [(12, .int .i64 x)]) → Q (.exit 4) e h) (henv : AllAt env (wE hv k T r p b9 b10 J ++ [(12, .int .i64 x), (20, .bool false), (23, .int .i64 ((0 : Nat) : Int))])) :
  VC fs ms B false (.loop L_escapementlaw18_RoomWaits_2) env h Q := by
 refine vc_slots 5 _ henv ?_
 refine vc_loop (z := true) ?_
 unfold wE
 conv => whnf
 cases c : decide (((0 : Nat) : Int) < (((tks T).length : Nat) : Int)) with
 | false =>
  conv => whnf
  exact hQ _ ⟨rfl, rfl, rfl, rfl, rfl, rfl, rfl, rfl, trivial⟩
 | true =>
  conv => whnf
  exact hQ _ ⟨rfl, rfl, rfl, rfl, rfl, rfl, rfl, rfl, trivial⟩
theorem goes_chk {T : List Tk} {js : Js} {L : List En} {R2 : List Nat} {a : Nat} {ja : Jb} (I : Inv T js L now (a :: R2) o) (G : Goes T js L R a R2) (hja : hasJ js a ja) :
  ∀ t jt, hasJ js t jt → jt.e < ja.e → t ≠ a → heldL L ((a : Nat) : Int) ≠ [] ∧ ∀ g, Wt T js L R (hF f) g → hF f t a = true ∧ (g t = 0 ∨ g t = a + 1) ∧ Wt T js L R (hF f) (fun k => if k = t then a + 1 else g k) := by
 intro t jt ht hlt hne
 have hah : ah (t, jt.e) (a, ja.e) = true := ah_iff.2 (.inl hlt)
 rcases G with ⟨hR | ⟨_, ⟨j, F⟩, _⟩, hB⟩
 ·subst hR
  have hn : t ∉ a :: R2 := by
   intro h
   rcases List.mem_cons.1 h with h | h
   ·exact hne h
   ·have := I.sk.head t h ja jt hja ht
    rw [ah_no hah] at this
    cases this
  obtain ⟨f1, jf, f2, f3, f4, f5⟩ := hB t jt ja ht hja hn hah
  refine ⟨fun h0 => f5 fun x hx e => (held_ne hx e h0).elim, fun g w => ?_⟩
  obtain ⟨_, c2, c3⟩ := w.check hB ht hja hn hah
  exact ⟨c2, c3, w.set ht hja hB hn hah⟩
 ·rw [hja.eq F.1, F.2 t jt ht] at hah
  cases hah
theorem wt_had {T : List Tk} {js : Js} {L : List En} (hn4 : T.length ≤ 4) (I : Inv T js L now R o) (W : Wt T js L R (hF f0) g) (h : ∀ x y, x < 4 → y < 4 → f0 (x * 4 + y) = true → heldL L ((y : Nat) : Int) ≠ [] → (∃ j, hasJ js y j) → f (x * 4 + y) = true) : Wt T js L R (hF f) g := by
 refine W.hd fun t k' hk hne hR ⟨j, hj⟩ => ?_
 rw [hF, Bool.and_eq_true, decide_eq_true_eq] at hk ⊢
 have := I.lt hj
 exact ⟨hk.1, h t k' (by omega) hk.1 hk.2 hne (I.rj k' hR)⟩
theorem waits_t {B i kh : Nat} {how : List Int} {J x : Int} {T : List Tk} {Q : AX → Env → Heap → Prop} (hk : k = 3 → T = []) (hi : i < 150) (hx0 : 0 ≤ x) (hx : x < 9600) (hrel : ¬ (x % 3 = 0 ∧ T ≠ [])) (P : Pl h col p r k st now R o) (W : WA h col b9 b10 f g) (w : Wt st.T st.j st.L R (hF f) g) (hT : st.T = T) (hn0 : 0 ≤ now) (hn : now ≤ i) {env : Env}
  (henv : AllAt env (wE (.fz kh (ints how)) k T r p b9 b10 J ++ [(12, .int .i64 x)])) {c : AC} (hc : c = (match L_escapementlaw18_RoomWaits_0 with | .seq _ (.seq (.block _ (.seq _ (.seq _ (.seq _ (.seq _ (.seq _ c)))))) _) => c | _ => .bad))
  (hQ : ∀ h1 col1 st1 now1 R1 o1 f1 g1 e, Pl h1 col1 p r k st1 now1 R1 o1 → WA h1 col1 b9 b10 f1 g1 → Wt st1.T st1.j st1.L R1 (hF f1) g1 → st1.T = T → 0 ≤ now1 → now1 ≤ now + 1 → AllAt e (wE (.fz kh (ints how)) k T r p b9 b10 J) → Q .normal e h1) : VC fs ms B false c env h Q := by
 subst hc
 subst hT
 refine vc_slots 5 _ henv ?_
 unfold wE
 refine vc_seqV (vpC_sound (z := true) ?_)
 conv => whnf
 refine VD.mono (step_do hx0 hx P hk hn0 (by omega) hrel) ?_
 rintro v h1 ⟨rfl, col1, js', L', R', o', M, P1, fr1⟩
 conv => whnf
 have w1 := w.mv P.inv.sk.nodup.1 M
 have W1 := W.pk fr1
 refine vc_seq true ?_
 conv => whnf
 refine vc_block ?_
 have hL1 : L'.length ≤ 1000 := by have := P1.inv.ln; have h : (L'.length : Int) ≤ now + 1 := this; omega
 refine w3 (st := { st with j := js', L := L' }) (hv := .fz kh (ints how)) (J := J) (f0 := f) hL1 (fun h2 f2 e P2 W2 hw he => ?_) st.T.length 0 h1 f _ rfl (Nat.zero_le _) P1 W1 (fun x y _ _ h _ _ => h) ⟨rfl, rfl, rfl, rfl, rfl, rfl, rfl, rfl, trivial⟩
 exact hQ h2 col1 _ (now + 1) R' o' f2 g e P2 W2 (wt_had P2.inv.n4 P2.inv w1 hw) rfl (by omega) (Int.le_refl _) he
theorem waits_b {B i kh : Nat} {how : List Int} {J : Int} {T : List Tk} {Q : AX → Env → Heap → Prop} (hk : k = 3 → T = []) (hlt : i < how.length) (hi : i < 150) (hJ : J = ((i : Nat) : Int)) (P : Pl h col p r k st now R o) (W : WA h col b9 b10 f g) (w : Wt st.T st.j st.L R (hF f) g) (hT : st.T = T) (hn0 : 0 ≤ now) (hn : now ≤ i) {env : Env}
  (henv : AllAt env (wE (.fz kh (ints how)) k T r p b9 b10 J)) {c : AC} (hc : c = (match L_escapementlaw18_RoomWaits_0 with | .seq _ (.seq c _) => c | _ => .bad))
  (hQ : ∀ h1 col1 st1 now1 R1 o1 f1 g1 e, Pl h1 col1 p r k st1 now1 R1 o1 → WA h1 col1 b9 b10 f1 g1 → Wt st1.T st1.j st1.L R1 (hF f1) g1 → st1.T = T → 0 ≤ now1 → now1 ≤ now + 1 → AllAt e (wE (.fz kh (ints how)) k T r p b9 b10 J) → Q .normal e h1) : VC fs ms B false c env h Q := by
 subst hc
 subst hT
 have hn4 := P.inv.n4
 have hb := bring_in (i := how[i]) (n := 9600) (by decide)
 have hL : st.L.length ≤ 900 := by have := P.inv.ln; omega
 refine vc_block ?_
 refine vc_slots 5 _ henv ?_
 unfold wE
 refine vc_seq true ?_
 conv => whnf
 refine ⟨_, by rw [hJ]; exact idx_int hlt, ?_⟩
 conv => whnf
 refine ⟨.int .i64 how[i], rfl, ?_⟩
 conv => whnf
 refine vd_pure (bring_c how[i] 9600 (by decide) (by decide)) ?_
 conv => whnf
 generalize bring how[i] 9600 = x at *
 by_cases hrel : x % 3 = 0 ∧ st.T ≠ []
 ·refine vc_seqV (vc_seq true ?_)
  conv => whnf
  refine ⟨_, rem_nn hb.1 (by decide), ?_⟩
  rw [hrel.1]
  conv => whnf
  rw [len_tks]
  have hTl : 0 < st.T.length := List.length_pos_iff.2 hrel.2
  refine vc_condV ?_
  conv => whnf
  refine brt (decide_eq_true (by omega)) (fun hc => ?_)
  (try rw [hc])
  conv => whnf
  have hTi : (0 : Int) < ((st.T.length : Nat) : Int) := by omega
  have x30 : 0 ≤ x / 3 := Int.ediv_nonneg hb.1 (by decide)
  obtain ⟨n, hn'⟩ : ∃ n : Nat, ((n : Nat) : Int) = x / 3 % ((st.T.length : Nat) : Int) := ⟨(x / 3 % ((st.T.length : Nat) : Int)).toNat, Int.toNat_of_nonneg (Int.emod_nonneg _ (by omega))⟩
  have hnT : n < st.T.length := by have := Int.emod_lt_of_pos (x / 3) hTi; omega
  have xr := rem_nn x30 hTi
  rw [← hn'] at xr
  refine vc_seq true ?_
  conv => whnf
  refine ⟨_, quo_nn hb.1 (by omega) (by decide), ?_⟩
  conv => whnf
  rw [len_tks]
  refine ⟨_, xr, ?_⟩
  conv => whnf
  refine vc_seqV (VC.mono (Q := fun x' e' g' => x' = .normal ∧ g' = h ∧ ∃ was, AllAt e' (wE (.fz kh (ints how)) k st.T r p b9 b10 J ++ [(12, .int .i64 x), (13, .int .i64 ((n : Nat) : Int)), (15, .bool was)]) ∧ (was = true ↔ ∃ j, hasJ st.j n j)) (vpC_sound (z := true) ?_) ?_)
  ·conv => whnf
   refine rdead_c P.room (fun hno => ?_) (fun n' j hn2 hj => ?_)
   ·conv => whnf
    exact ⟨rfl, rfl, false, ⟨rfl, rfl, rfl, rfl, rfl, rfl, rfl, rfl, rfl, rfl, trivial⟩, ⟨(fun h => by cases h), fun ⟨j, hj⟩ => (hno (ofE_some hnT hj)).elim⟩⟩
   ·obtain rfl : n = n' := by omega
    conv => whnf
    exact ⟨rfl, rfl, true, ⟨rfl, rfl, rfl, rfl, rfl, rfl, rfl, rfl, rfl, rfl, trivial⟩, ⟨fun _ => ⟨j, hj⟩, fun _ => rfl⟩⟩
  ·rintro x' e' g' ⟨rfl, rfl, was, he, hwas⟩
   show VC fs ms _ _ _ _ _ _
   refine vc_slots 5 _ he ?_
   unfold wE
   refine vc_seq true ?_
   conv => whnf
   refine VD.mono (step_rel hb.1 hb.2 P hk hn0 (by omega) hrel.1 hrel.2 hn') ?_
   rintro v h1 ⟨rfl, col1, st1, P1, fr1, hst⟩
   have hT1 : st1.T = st.T := by rcases hst with rfl | ⟨tk, gg, _, _, _, rfl⟩ <;> rfl
   have W1 := W.pk fr1
   conv => whnf
   refine vc_seqV (VC.mono (Q := fun x' e' g' => x' = .normal ∧ g' = h1 ∧ ∃ is, AllAt e' (wE (.fz kh (ints how)) k st.T r p b9 b10 J ++ [(13, .int .i64 ((n : Nat) : Int)), (15, .bool was), (17, .bool is)]) ∧ (is = true ↔ ∃ j, hasJ st1.j n j)) (vpC_sound (z := true) ?_) ?_)
   ·conv => whnf
    refine rdead_c P1.room (fun hno => ?_) (fun n' j hn2 hj => ?_)
    ·conv => whnf
     exact ⟨rfl, rfl, false, ⟨rfl, rfl, rfl, rfl, rfl, rfl, rfl, rfl, rfl, rfl, trivial⟩, ⟨(fun h => by cases h), fun ⟨j, hj⟩ => (hno (ofE_some (by rw [hT1]; exact hnT) hj)).elim⟩⟩
    ·obtain rfl : n = n' := by omega
     conv => whnf
     exact ⟨rfl, rfl, true, ⟨rfl, rfl, rfl, rfl, rfl, rfl, rfl, rfl, rfl, rfl, trivial⟩, ⟨fun _ => ⟨j, hj⟩, fun _ => rfl⟩⟩
   ·rintro x' e' g' ⟨rfl, rfl, is, he, his⟩
    show VC fs ms _ _ _ _ _ _
    refine vc_slots 5 _ he ?_
    unfold wE
    refine vc_seqV (vc_seq true ?_)
    conv => whnf
    refine vc_block ?_
    cases hbb : is && !was with
    | false =>
     have hst1 : st1 = st := by
      rcases hst with h | ⟨tk, gg, h2, h3, _, rfl⟩
      ·exact h
      ·exfalso
       have i1 : is = true := his.2 ⟨jNew tk [opR] now, hasJ_set.2 (.inl ⟨rfl, (List.getElem?_eq_some_iff.1 h3).1, rfl⟩)⟩
       have i2 : was = false := by
        cases hw : was with
        | false => rfl
        | true =>
         obtain ⟨j, hj⟩ := hwas.1 hw
         rw [hasJ, h3] at hj
         cases hj
       rw [i1, i2] at hbb
       cases hbb
     subst hst1
     refine w1z (hv := .fz kh (ints how)) (J := J) (T := st1.T) hTl hbb (fun e he => ?_) ⟨rfl, rfl, rfl, rfl, rfl, rfl, rfl, rfl, rfl, rfl, rfl, trivial⟩
     show VC fs ms _ _ _ _ _ _
     refine vc_slots 5 _ he (vpC_sound (z := true) ?_)
     unfold wE
     conv => whnf
     exact hQ _ col1 _ _ _ _ _ _ _ P1 W1 w rfl hn0 (by omega) ⟨rfl, rfl, rfl, rfl, rfl, rfl, rfl, trivial⟩
    | true =>
     rw [Bool.and_eq_true, Bool.not_eq_true'] at hbb
     obtain ⟨rfl, rfl⟩ := hbb
     rcases hst with rfl | ⟨tk, gg, ht, hj0, hw, rfl⟩
     ·obtain ⟨j, hj⟩ := his.1 rfl
      have := hwas.2 ⟨j, hj⟩
      cases this
     refine w1 (st := { st with j := st.j.set n (some (jNew tk [opR] now)), g := gg }) (hv := .fz kh (ints how)) (J := J) (f0 := f) (g0 := g) hnT (Nat.le_trans hL (by decide)) (fun h2 f2 g2 e P2 W2 q1 q2 q3 q4 he => ?_) st.T.length 0 _ f g _ rfl (Nat.zero_le _) P1 W1 (fun x hx => by omega) (fun _ _ => rfl) (fun h => by omega) (fun _ _ => rfl) ⟨rfl, rfl, rfl, rfl, rfl, rfl, rfl, rfl, rfl, rfl, rfl, trivial⟩
     have w2 : Wt st.T (st.j.set n (some (jNew tk [opR] now))) st.L R (hF f2) g2 := by
      refine w.rel (t0 := tk) P.inv P2.inv hj0 rfl hw (fun k' hk' hne => ?_) (fun t k' htn => ?_) q3 q4
      ·obtain ⟨j, hj⟩ := P2.inv.rj k' hk'
       have hlt' := P2.inv.lt hj
       have hlt' : k' < st.T.length := hlt'
       rw [hF, Bool.and_eq_true, decide_eq_true_eq]
       exact ⟨by omega, q1 k' hlt' hne ⟨j, hj⟩⟩
      ·rw [hF, hF]
       by_cases hk4 : k' < 4
       ·rw [q2 (t * 4 + k') (by omega)]
       ·rw [decide_eq_false hk4]; rfl
     show VC fs ms _ _ _ _ _ _
     refine vc_slots 5 _ he (vpC_sound (z := true) ?_)
     unfold wE
     conv => whnf
     exact hQ _ col1 _ _ _ _ _ _ _ P2 W2 w2 rfl hn0 (by omega) ⟨rfl, rfl, rfl, rfl, rfl, rfl, rfl, trivial⟩
 ·refine vc_seqV (VC.mono (Q := fun x' e' g' => x' = .normal ∧ g' = h ∧ AllAt e' (wE (.fz kh (ints how)) k st.T r p b9 b10 J ++ [(12, .int .i64 x)])) (vpC_sound (z := true) ?_) ?_)
  ·conv => whnf
   refine ⟨_, rem_nn hb.1 (by decide), ?_⟩
   conv => whnf
   refine br (fun hc => ?_) (fun hc => ?_) <;> (try rw [hc]) <;> (conv => whnf)
   ·rw [len_tks]
    refine br (fun hc => ?_) (fun hc => ?_) <;> (try rw [hc]) <;> (conv => whnf)
    ·exfalso
     have h1 := eq_of_beq ‹(x % 3 == 0) = true›
     have h2 := of_decide_eq_true hc
     exact hrel ⟨h1, List.length_pos_iff.1 (by omega)⟩
    ·exact ⟨rfl, rfl, rfl, rfl, rfl, rfl, rfl, rfl, rfl, rfl, trivial⟩
   ·exact ⟨rfl, rfl, rfl, rfl, rfl, rfl, rfl, rfl, rfl, rfl, trivial⟩
  ·rintro x' e' g' ⟨rfl, rfl, he⟩
   show VC fs ms _ _ _ _ _ _
   refine vc_slots 5 _ he ?_
   unfold wE
   refine vc_seqV (VC.mono (Q := fun x' e' g1 => x' = .normal ∧ g1 = g' ∧ ((∃ (a : Nat) (R2 : List Nat), AllAt e' (wE (.fz kh (ints how)) k st.T r p b9 b10 J ++ [(12, .int .i64 x), (19, .int .i64 ((a : Nat) : Int)), (20, .bool true)]) ∧ Goes st.T st.j st.L R a R2 ∧ Inv st.T st.j st.L now (a :: R2) o) ∨
    (AllAt e' (wE (.fz kh (ints how)) k st.T r p b9 b10 J ++ [(12, .int .i64 x), (19, .int .i64 0), (20, .bool false)]) ∧ ∀ i j, ¬ hasJ st.j i j))) (vpC_sound (z := true) ?_) ?_)
   ·conv => whnf
    refine rmwho_c P.room hL (fun i j hj h2 _ => ?_) (fun hno => ?_) (fun _ i j F hg => ?_) (fun _ i j F hg hl => ?_)
    ·rcases P.inv.sec i j hj with h | h <;> omega
    ·conv => whnf
     exact ⟨rfl, rfl, .inr ⟨⟨rfl, rfl, rfl, rfl, rfl, rfl, rfl, rfl, rfl, rfl, trivial⟩, hno⟩⟩
    ·conv => whnf
     obtain ⟨R2, G, I2⟩ := P.inv.goes_fst F hg
     exact ⟨rfl, rfl, .inl ⟨i, R2, ⟨rfl, rfl, rfl, rfl, rfl, rfl, rfl, rfl, rfl, rfl, trivial⟩, G, I2⟩⟩
    ·obtain ⟨a, R2, ht, G, I2⟩ := P.inv.goes_top F hl
     rw [ht]
     conv => whnf
     exact ⟨rfl, rfl, .inl ⟨a, R2, ⟨rfl, rfl, rfl, rfl, rfl, rfl, rfl, rfl, rfl, rfl, trivial⟩, G, I2⟩⟩
   ·rintro x' e' g1 ⟨rfl, rfl, (⟨a, R2, he, G, I2⟩ | ⟨he, hnoj⟩)⟩
    ·show VC fs ms _ _ _ _ _ _
     obtain ⟨ja, hja⟩ := I2.rj a (by simp)
     have hat := I2.lt hja
     refine vc_slots 5 _ he ?_
     unfold wE
     refine vc_seq true ?_
     conv => whnf
     refine rdead_c P.room (fun hno => (hno (ofE_some hat hja)).elim) (fun a' j' ha' hj' => ?_)
     obtain rfl : a = a' := by omega
     obtain rfl : ja = j' := hja.eq hj'
     conv => whnf
     refine vc_seqV (vc_seq true ?_)
     conv => whnf
     refine vc_block ?_
     refine w2 (hv := .fz kh (ints how)) (J := J) (x := x) (R0 := R) (Nat.le_trans hL (by decide)) hja hat (goes_chk I2 G hja) (fun h2 g2 e P2 W2 w2 he => ?_) st.T.length 0 _ g _ rfl (Nat.zero_le _) P W w ⟨rfl, rfl, rfl, rfl, rfl, rfl, rfl, rfl, rfl, rfl, rfl, rfl, rfl, trivial⟩
     show VC fs ms _ _ _ _ _ _
     exact waits_t (i := i) hk hi hb.1 hb.2 hrel P2 W2 w2 rfl hn0 hn he rfl hQ
    ·show VC fs ms _ _ _ _ _ _
     refine vc_slots 5 _ he ?_
     unfold wE
     refine vc_seq true ?_
     conv => whnf
     refine rdead_c (t := 0) P.room (fun _ => ?_) (fun a' j' ha' hj' => (hnoj _ _ hj').elim)
     conv => whnf
     refine vc_seqV (vc_seq true ?_)
     conv => whnf
     refine vc_block ?_
     refine w2z (hv := .fz kh (ints how)) (J := J) (x := x) (T := st.T) (fun e he => ?_) ⟨rfl, rfl, rfl, rfl, rfl, rfl, rfl, rfl, rfl, rfl, trivial⟩
     show VC fs ms _ _ _ _ _ _
     exact waits_t (i := i) hk hi hb.1 hb.2 hrel P W w rfl hn0 hn he rfl hQ
end
section
variable {p r k b9 b10 : Nat}
theorem waits_l {B kh : Nat} {how : List Int} {T : List Tk} {Q : AX → Env → Heap → Prop} (hk : k = 3 → T = []) (hhow : how.length < 2 ^ 62) (hQ : ∀ e g, Q (.exit 0) e g) :
  ∀ (m i : Nat) (J : Int) (h : Heap) (col : Nat → Nat) (st : St) (now : Int) (R o : List Nat) (f : Nat → Bool) (g : Nat → Nat) (env : Env), 150 - i = m → i ≤ 150 → J = ((i : Nat) : Int) → Pl h col p r k st now R o → WA h col b9 b10 f g → Wt st.T st.j st.L R (hF f) g → st.T = T → 0 ≤ now → now ≤ i →
   AllAt env (wE (.fz kh (ints how)) k T r p b9 b10 J) → VC fs ms B false (.loop L_escapementlaw18_RoomWaits_0) env h Q := by
 intro m
 induction m using Nat.strongRecOn with
 | ind m ih =>
 intro i J h col st now R o f g env hm hi hJ P W w hT hn0 hn henv
 refine vc_slots 5 _ henv ?_
 unfold wE
 have hct : decide (J < (((ints how).length : Nat) : Int)) = decide (i < how.length) := by rw [len_ints, hJ]; simp
 refine vc_loopV (vc_seqV (vpC_sound (z := true) ?_))
 cases c : decide (i < how.length) with
 | false =>
  rw [c] at hct
  conv => whnf
  refine brf (hct) (fun hc => ?_)
  (try rw [hc])
  conv => whnf
  exact hQ _ _
 | true =>
  rw [c] at hct
  have hlt : i < how.length := of_decide_eq_true c
  conv => whnf
  refine brt (hct) (fun hc => ?_)
  (try rw [hc])
  conv => whnf
  refine br (fun hc => ?_) (fun hc => ?_) <;> (try rw [hc]) <;> (conv => whnf)
  ·have hi4 : i < 150 := by have := of_decide_eq_true hc; omega
   have hw : some (AV.int .i64 (IntKind.i64.wrap (J + 1))) = some (AV.int .i64 (J + 1)) := by rw [IntWalk.i64_in _ (by omega)]
   refine vc_seqV (waits_b (i := i) (kh := kh) (how := how) (J := J) hk hlt hi4 hJ P W w hT hn0 hn ⟨rfl, rfl, rfl, rfl, rfl, rfl, rfl, trivial⟩ rfl fun h1 col1 st1 now1 R1 o1 f1 g1 e P1 W1 w1 hT1 h10 h11 he => ?_)
   show VC fs ms _ _ _ _ _ _
   refine vc_slots 5 _ he (vpC_sound (z := true) ?_)
   unfold wE
   conv => whnf
   exact ih (150 - (i + 1)) (by omega) (i + 1) (J + 1) h1 col1 st1 now1 R1 o1 f1 g1 _ rfl (by omega) (by omega) P1 W1 w1 hT1 h10 (by omega) ⟨rfl, rfl, rfl, rfl, rfl, rfl, hw, trivial⟩
  ·exact hQ _ _
theorem wa_new {h : Heap} {col : Nat → Nat} : WA ((h.new (.cells (mapC AV.bool 16 fun _ => false) true 0)).new (.cells (mapC byI 4 fun _ => 0) true 0)) (cadd (cadd col h.next 202) (h.next + 1) 203) h.next (h.next + 1) (fun _ => false) (fun _ => 0) ∧
  Kc h ((h.new (.cells (mapC AV.bool 16 fun _ => false) true 0)).new (.cells (mapC byI 4 fun _ => 0) true 0)) col (cadd (cadd col h.next 202) (h.next + 1) 203) (fun _ => False) := by
 have n1 : (h.new (.cells (mapC AV.bool 16 fun _ => false) true 0)).next = h.next + 1 := rfl
 refine ⟨⟨by show h.next < h.next + 1 + 1; omega, by rw [cadd_old (by omega), cadd_new (Nat.le_refl _)], ?_, by show h.next + 1 < h.next + 1 + 1; omega, cadd_new (Nat.le_refl _), get_new_same⟩, by show h.next ≤ h.next + 1 + 1; omega, fun c hc _ => ?_, fun c hc => by rw [cadd_old (by omega), cadd_old hc]⟩
 ·rw [get_new_ne (by omega)]; exact get_new_same
 ·rw [get_new_ne (by omega), get_new_ne hc]
set_option smartUnfolding true in
theorem roomWaits_c (kl kh : Nat) (l : List Tk) (how : List Int) (hl : l.length < 2 ^ 62) (hh : how.length < 2 ^ 62) : PC fs ms f_escapementlaw18_RoomWaits [.fz kl (tks l), .fz kh (ints how)] (.bool true) := by
 refine pc_of (by simp [clL, AV.cl, cl_tks, cl_ints]) rfl ?_
 refine vd_begin (af := C_escapementlaw18_RoomWaits) rfl (yB rfl) ?_
 generalize hQ : (fun (v : AV) (_ : Heap) => v = .bool true) = Q
 have hT := madeT_4 l
 have hk3 : growK (tks (madeT l)).length = 3 → madeT l = [] := grow3
 have hchk := made_chk l
 have hmk := made_c kl l hl
 generalize growK (tks (madeT l)).length = k at *
 generalize madeT l = T at *
 set_option smartUnfolding false in conv => whnf
 refine vc_seq true ?_
 set_option smartUnfolding false in conv => whnf
 refine vc_seq true ?_
 set_option smartUnfolding false in conv => whnf
 refine vd_pure hmk ?_
 set_option smartUnfolding false in conv => whnf
 refine vc_seq true ?_
 set_option smartUnfolding false in conv => whnf
 refine rmnew_c (col := fun _ => 0) k T hk3 (by omega) (fun hn => (hn hchk).elim) (fun hok h1 col1 r RM f1 => ?_)
 set_option smartUnfolding false in conv => whnf
 refine vc_seqV (vpC_sound (z := true) ?_)
 set_option smartUnfolding false in conv => whnf
 refine vc_seq true ?_
 set_option smartUnfolding false in conv => whnf
 obtain ⟨RM3, P3⟩ := pl_new (k := k) (T := T) RM
 have PL : Pl _ _ h1.next r k ⟨T, [], List.replicate T.length none, List.replicate T.length 0⟩ 0 [] [] := ⟨⟨.nils, P3⟩, RM3, inv_new hT⟩
 refine vc_seq true ?_
 set_option smartUnfolding false in conv => whnf
 refine vc_seq true ?_
 set_option smartUnfolding false in conv => whnf
 obtain ⟨WA0, K0⟩ := wa_new (h := h1.new (.cells [.ptr r 0, .fz k (tks T), .int .i64 0, .nils] true 0)) (col := cadd col1 h1.next 200)
 have PL2 := PL.kw K0 (fun _ h => h.elim)
 refine vc_seqV (vc_seq true ?_)
 set_option smartUnfolding false in conv => whnf
 refine vc_block ?_
 have W0 : Wt T (List.replicate T.length none) [] [] (hF fun _ => false) (fun _ => 0) := by
  intro t jt ht
  rw [hasJ, List.getElem?_replicate] at ht
  split at ht <;> cases ht
 refine waits_l (kh := kh) (how := how) (T := T) (k := k) hk3 hh (fun e g => ?_) 150 0 0 _ _ ⟨T, [], List.replicate T.length none, List.replicate T.length 0⟩ 0 [] [] _ _ _ rfl (by omega) rfl PL2 WA0 W0 rfl (Int.le_refl _) (Int.le_refl _) ⟨rfl, rfl, rfl, rfl, rfl, rfl, rfl, trivial⟩
 show VC fs ms _ _ _ _ _ _
 refine vc_slots 0 [] trivial (vpC_sound (z := true) ?_)
 set_option smartUnfolding false in conv => whnf
 refine vd_pure works18_c ?_
 set_option smartUnfolding false in conv => whnf
 subst hQ
 rfl
end
end Ir
end Go.Proofs.YtnlcabhfkpafmaaGreat
