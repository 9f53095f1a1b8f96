/-
  Regions that draw their order: what a trace in the text's order says of places and stores.
  Regions that draw their order: a run in the text's order exists, and what it shows of numbers.
  Regions that draw their order: the heap that all orders work on; what holds when some operations are done.
  Regions that draw their order: one operation more is done; those that change no heap.
  Regions that draw their order: an effect is done.
  Regions that draw their order: an effect is done, in any order.
-/
import Derived.Test.YtlndlbngfgaoeaaAdsSem
set_option linter.unusedSimpArgs false
set_option linter.unusedVariables false
namespace Go.Proofs.Ytlndlbngfgaoeaa
namespace Ads

def heapAt (tr : List Mark1) (h' : Heap) (i : Nat) : Heap := nextHeap (tr.drop i) h'

def envAt : List Ins → List Mark1 → Nat → Env → Env
 | x :: l, m :: tr, i + 1, e => envAt l tr i (e.put x.dst m.v)
 | _, _, _, e => e

def envOf : (Nat → Bool) → List Ins → List Mark1 → Env → Env
 | S, x :: l, m :: tr, e => envOf (fun j => S (j + 1)) l tr (cond (S 0) (e.put x.dst m.v) e)
 | _, _, _, e => e

section
variable {P : Program} {H0 : Nat}

theorem OT.length : ∀ {l : List Ins} {e : Env} {h : Heap} {tr : List Mark1} {e' : Env} {h' : Heap}, OT P H0 l e h tr e' h' → tr.length = l.length
 | [], _, _, tr, _, _, ho => by cases tr <;> simp_all [OT]
 | x :: l, _, _, tr, _, _, ho => by
  cases tr with
  | nil => simp [OT] at ho
  | cons m tr =>
   simp only [OT] at ho
   rcases ho.2.2 with ⟨_, _, _, hr⟩ | ⟨_, _, h1, _, hr⟩ <;> simp [hr.length]

theorem OT.zero {l : List Ins} {e : Env} {h : Heap} {tr : List Mark1} {e' : Env} {h' : Heap} (ho : OT P H0 l e h tr e' h') : heapAt tr h' 0 = h := by
 cases l with
 | nil => cases tr <;> simp_all [OT, heapAt, nextHeap]
 | cons x l => cases tr with
  | nil => simp [OT] at ho
  | cons m tr => simp only [OT] at ho; simp [heapAt, nextHeap, ho.1]

theorem OT.at : ∀ {l : List Ins} {e : Env} {h : Heap} {tr : List Mark1} {e' : Env} {h' : Heap}, OT P H0 l e h tr e' h' → ∀ {i : Nat} {x : Ins}, l[i]? = some x →
  ∃ m, tr[i]? = some m ∧ m.h = heapAt tr h' i ∧ m.vals = x.args.map (envAt l tr i e).ev ∧
   ((m.on = false ∧ wantedA x (envAt l tr i e) = false ∧ m.v = .undef ∧ heapAt tr h' (i + 1) = heapAt tr h' i) ∨
    (m.on = true ∧ wantedA x (envAt l tr i e) = true ∧ OpOk P H0 x.op m.vals (heapAt tr h' i) m.v (heapAt tr h' (i + 1))))
 | [], _, _, _, _, _, _, i, x, hx => by simp at hx
 | y :: l, e, h, tr, e', h', ho, i, x, hx => by
  cases tr with
  | nil => simp [OT] at ho
  | cons m tr =>
   simp only [OT] at ho
   cases i with
   | zero =>
    simp at hx
    subst hx
    refine ⟨m, rfl, rfl, by simpa [envAt] using ho.2.1, ?_⟩
    rcases ho.2.2 with ⟨h1, h2, h3, hr⟩ | ⟨h1, h2, h4, h3, hr⟩
    ·refine .inl ⟨h1, by simpa [envAt] using h2, h3, ?_⟩
     show heapAt tr h' 0 = m.h
     rw [hr.zero, ho.1]
    ·refine .inr ⟨h1, by simpa [envAt] using h2, ?_⟩
     show OpOk P H0 y.op m.vals m.h m.v (heapAt tr h' 0)
     rw [hr.zero, ho.1]
     exact h3
   | succ i =>
    simp at hx
    rcases ho.2.2 with ⟨h1, h2, h3, hr⟩ | ⟨h1, h2, h4, h3, hr⟩
    ·rw [← h3] at hr
     obtain ⟨m', g1, g2, g3, g4⟩ := hr.at hx
     exact ⟨m', by simpa using g1, by simpa [heapAt] using g2, by simpa [envAt] using g3, by simpa [envAt, heapAt] using g4⟩
    ·obtain ⟨m', g1, g2, g3, g4⟩ := hr.at hx
     exact ⟨m', by simpa using g1, by simpa [heapAt] using g2, by simpa [envAt] using g3, by simpa [envAt, heapAt] using g4⟩

theorem OT.last {l : List Ins} {e : Env} {h : Heap} {tr : List Mark1} {e' : Env} {h' : Heap} (ho : OT P H0 l e h tr e' h') {i : Nat} (hi : l.length ≤ i) : heapAt tr h' i = h' := by
 unfold heapAt
 rw [List.drop_eq_nil_of_le (by rw [ho.length]; exact hi)]
 rfl

theorem OT.take : ∀ {l : List Ins} {e : Env} {h : Heap} {tr : List Mark1} {e' : Env} {h' : Heap}, OT P H0 l e h tr e' h' → ∀ i : Nat,
  OT P H0 (l.take i) e h (tr.take i) (envAt l tr i e) (heapAt tr h' i)
 | [], e, h, tr, e', h', ho, i => by
  cases tr with
  | cons _ _ => simp [OT] at ho
  | nil => simp only [OT] at ho; obtain ⟨rfl, rfl⟩ := ho; cases i <;> simp [OT, envAt, heapAt, nextHeap]
 | y :: l, e, h, tr, e', h', ho, i => by
  cases tr with
  | nil => simp [OT] at ho
  | cons m tr =>
   cases i with
   | zero =>
    have := ho.zero
    simp [OT, envAt, this]
   | succ i =>
    simp only [OT] at ho
    simp only [List.take_succ_cons, OT, envAt]
    refine ⟨ho.1, ho.2.1, ?_⟩
    rcases ho.2.2 with ⟨h1, h2, h3, hr⟩ | ⟨h1, h2, h4, h3, hr⟩
    ·refine .inl ⟨h1, h2, h3, ?_⟩
     have := hr.take i
     rw [h3]
     simpa [heapAt] using this
    ·refine .inr ⟨h1, h2, h4, h3, ?_⟩
     have := hr.take i
     simpa [heapAt] using this

theorem envAt_end : ∀ {l : List Ins} {e : Env} {h : Heap} {tr : List Mark1} {e' : Env} {h' : Heap}, OT P H0 l e h tr e' h' → envAt l tr l.length e = e'
 | [], e, h, tr, e', h', ho => by cases tr <;> simp_all [OT, envAt]
 | y :: l, e, h, tr, e', h', ho => by
  cases tr with
  | nil => simp [OT] at ho
  | cons m tr =>
   simp only [OT] at ho
   simp only [List.length_cons, envAt]
   rcases ho.2.2 with ⟨h1, h2, h3, hr⟩ | ⟨h1, h2, h4, h3, hr⟩
   ·rw [h3]; exact envAt_end hr
   ·exact envAt_end hr

/- Environments. -/

theorem put_get_of_ne {e : Env} {d : Option Nat} {v : AV} {t : Nat} (h : d ≠ some t) : (e.put d v).get t = e.get t := by rw [env_get_put, if_neg h]

theorem envOf_at : ∀ (l : List Ins) (tr : List Mark1) (S : Nat → Bool) (i : Nat) (d : Nat) (e1 e2 : Env), e1.get d = e2.get d → tr.length = l.length →
  (∀ j x, l[j]? = some x → x.dst = some d → S j = decide (j < i)) → (envOf S l tr e1).get d = (envAt l tr i e2).get d
 | [], tr, S, i, d, e1, e2, he, hl, hs => by cases tr <;> simp_all [envOf, envAt]
 | x :: l, [], S, i, d, e1, e2, he, hl, hs => by simp at hl
 | x :: l, m :: tr, S, i, d, e1, e2, he, hl, hs => by
  simp only [envOf]
  cases i with
  | zero =>
   have h0 : (cond (S 0) (e1.put x.dst m.v) e1).get d = e2.get d := by
    by_cases hx : x.dst = some d
    ·have := hs 0 x rfl hx
     simp at this
     rw [this]; exact he
    ·cases S 0
     ·exact he
     ·simp only [cond_true]; rw [put_get_of_ne hx]; exact he
   have := envOf_at l tr (fun j => S (j + 1)) 0 d _ e2 h0 (by simpa using hl) (fun j y hy hd => by
    have := hs (j + 1) y (by simpa using hy) hd
    simpa using this)
   rw [this]
   cases l <;> cases tr <;> simp [envAt]
  | succ i =>
   simp only [envAt]
   refine envOf_at l tr (fun j => S (j + 1)) i d _ _ ?_ (by simpa using hl) (fun j y hy hd => by
    have := hs (j + 1) y (by simpa using hy) hd
    simpa using this)
   by_cases hx : x.dst = some d
   ·have := hs 0 x rfl hx
    simp at this
    rw [this]
    simp only [cond_true]
    rw [env_get_put, env_get_put, if_pos hx, if_pos hx]
   ·rw [put_get_of_ne hx]
    cases S 0
    ·exact he
    ·simp only [cond_true]; rw [put_get_of_ne hx]; exact he

theorem envOf_congr : ∀ (l : List Ins) (tr : List Mark1) (S S' : Nat → Bool) (d : Nat) (e1 e2 : Env), e1.get d = e2.get d → tr.length = l.length →
  (∀ j x, l[j]? = some x → x.dst = some d → S j = S' j) → (envOf S l tr e1).get d = (envOf S' l tr e2).get d
 | [], tr, S, S', d, e1, e2, he, hl, hs => by cases tr <;> simp_all [envOf]
 | x :: l, [], S, S', d, e1, e2, he, hl, hs => by simp at hl
 | x :: l, m :: tr, S, S', d, e1, e2, he, hl, hs => by
  simp only [envOf]
  refine envOf_congr l tr _ _ d _ _ ?_ (by simpa using hl) (fun j y hy hd => hs (j + 1) y (by simpa using hy) hd)
  by_cases hx : x.dst = some d
  ·rw [hs 0 x rfl hx]
   cases S' 0
   ·exact he
   ·simp only [cond_true]; rw [env_get_put, env_get_put, if_pos hx, if_pos hx]
  ·cases S 0 <;> cases S' 0 <;> simp only [cond_true, cond_false, put_get_of_ne hx] <;> exact he

theorem envOf_put : ∀ (l : List Ins) (tr : List Mark1) (S S' : Nat → Bool) (i : Nat) (x : Ins) (m : Mark1) (e : Env) (d : Nat), tr.length = l.length → l[i]? = some x → tr[i]? = some m →
  (∀ j, S' j = (S j || decide (j = i))) → S i = false → (∀ j y, i < j → l[j]? = some y → x.dst = some d → y.dst = some d → S j = false) →
  (envOf S' l tr e).get d = ((envOf S l tr e).put x.dst m.v).get d
 | [], tr, S, S', i, x, m, e, d, hl, hx, hm, hs, hsi, hlate => by simp at hx
 | y :: l, [], S, S', i, x, m, e, d, hl, hx, hm, hs, hsi, hlate => by simp at hl
 | y :: l, n :: tr, S, S', i, x, m, e, d, hl, hx, hm, hs, hsi, hlate => by
  simp only [envOf]
  cases i with
  | zero =>
   simp at hx hm
   subst hx
   subst hm
   rw [hs 0, hsi]
   simp only [decide_true, Bool.or_true, cond_true, cond_false]
   by_cases hd : y.dst = some d
   ·rw [env_get_put, if_pos hd]
    have : (envOf (fun j => S' (j + 1)) l tr (e.put y.dst n.v)).get d = (envAt l tr 0 (e.put y.dst n.v)).get d := by
     refine envOf_at l tr _ 0 d _ _ rfl (by simpa using hl) (fun j z hz hdz => ?_)
     rw [hs (j + 1), hlate (j + 1) z (by omega) (by simpa using hz) hd hdz]
     simp
    rw [this]
    have : envAt l tr 0 (e.put y.dst n.v) = e.put y.dst n.v := by cases l <;> cases tr <;> simp [envAt]
    rw [this, env_get_put, if_pos hd]
   ·rw [put_get_of_ne hd]
    refine envOf_congr l tr _ _ d _ _ (put_get_of_ne hd) (by simpa using hl) (fun j z hz hdz => ?_)
    rw [hs (j + 1)]
    simp
  | succ i =>
   simp at hx hm
   have h0 : S' 0 = S 0 := by rw [hs 0]; simp
   rw [h0]
   refine envOf_put l tr _ _ i x m _ d (by simpa using hl) hx hm (fun j => ?_) hsi (fun j z hj hz hdx hdz => hlate (j + 1) z (by omega) (by simpa using hz) hdx hdz)
   rw [hs (j + 1)]
   simp

/- Stores. -/

def uAt (l : List Ins) (tr : List Mark1) (h' : Heap) (c : Nat) : Heap := heapU l tr h' c

theorem over_congr : ∀ (l : List Ins) (tr : List Mark1) (t t' : Tr Blk) (b : Nat), t.get b = t'.get b → (over l tr t).get b = (over l tr t').get b
 | [], tr, t, t', b, h => by cases tr <;> simpa [over] using h
 | x :: l, [], t, t', b, h => by simpa [over] using h
 | x :: l, m :: tr, t, t', b, h => by
  simp only [over]
  split
  ·refine over_congr l tr _ _ b ?_
   rw [Tr.get_set, Tr.get_set, h]
  ·exact over_congr l tr _ _ b h

theorem over_ne : ∀ (l : List Ins) (tr : List Mark1) (t : Tr Blk) (b : Nat), (∀ (j : Nat) (x : Ins) (m : Mark1), l[j]? = some x → tr[j]? = some m → madeBy x m ≠ none → m.h.next ≠ b) →
  (over l tr t).get b = t.get b
 | [], tr, t, b, h => by cases tr <;> simp [over]
 | x :: l, [], t, b, h => by simp [over]
 | x :: l, m :: tr, t, b, h => by
  have ht := fun t => over_ne l tr t b (fun j y n hy hn => h (j + 1) y n (by simpa using hy) (by simpa using hn))
  simp only [over]
  split
  ·rename_i bk hb
   rw [ht, Tr.get_set, if_neg]
   intro e
   exact h 0 x m rfl rfl (by rw [hb]; simp) e.symm
  ·exact ht t
end
end Ads
end Go.Proofs.Ytlndlbngfgaoeaa

set_option linter.unusedSimpArgs false
set_option linter.unusedVariables false
namespace Go.Proofs.Ytlndlbngfgaoeaa
namespace Ads

section
variable {P : Program} {H0 : Nat} {ro : Option Nat} {n : Nat}

theorem FW_room (ro : Option Nat) (n : Nat) : (FW ro).room n := fun _ h => by simp [FW, Fence.wide] at h

theorem wpIn_exists {o : Oper} {a : Act} {w : World} {next : Act → World → Prop} {Q : Exit → Act → World → Prop} (h : o.wpIn (FW ro) n P a w next Q) :
  (∃ a' w', next a' w') ∨ ∃ ex a' w', Q ex a' w' := by
 have h := h.2
 generalize (o.semAt (FW ro).round a.eval).run P w = r at h
 cases r with
 | ok x w' =>
  cases x <;> simp only [Oper.uponIn] at h
  case value v => exact .inl ⟨_, _, h⟩
  case skip => exact .inl ⟨_, _, h⟩
  case defer d => exact .inl ⟨_, _, h⟩
  case enter f args =>
   obtain ⟨e, w'', fr, hr, _⟩ := h.2.2 [] (FW_room _ _)
   cases e with
   | returned v => exact .inl ⟨_, _, hr⟩
   | panicked c => exact .inr ⟨_, _, _, hr⟩
   | outgrown => obtain ⟨a1, w1, hq⟩ := hr; exact .inr ⟨_, _, _, hq⟩
  case row row args =>
   obtain ⟨v, w'', hr, _⟩ := h.2 (Frame.ofRow P row args .normal) [] (FW_room _ _)
   exact .inl ⟨_, _, hr⟩
  case round l f tmps as bd =>
   obtain ⟨e, w'', hr, _⟩ := h.2.2 (Frame.ofRow P "" #[] .normal) [] (FW_room _ _)
   cases e with
   | returned v => exact .inl ⟨_, _, hr⟩
   | panicked c => exact .inr ⟨_, _, _, hr⟩
   | outgrown => obtain ⟨a1, w1, hq⟩ := hr; exact .inr ⟨_, _, _, hq⟩
  all_goals (first | exact h.elim | skip)
 | halt x w' =>
  cases x <;> simp only [Oper.uponIn] at h
  case panic v => exact .inr ⟨_, _, _, h⟩
  all_goals (first | exact h.elim | skip)

theorem wpListIn_exists {ops : Array Oper} {Q : Exit → Act → World → Prop} : ∀ {os : List Oper} {a : Act} {w : World}, wpListIn (FW ro) n P ops Q os a w → ∃ ex a' w', Q ex a' w'
 | [], a, w, h => ⟨_, _, _, h⟩
 | o :: os, a, w, h => by
  unfold wpListIn at h
  split at h
  ·rcases wpIn_exists h with ⟨a', w', h'⟩ | h'
   ·exact wpListIn_exists h'
   ·exact h'
  ·exact wpListIn_exists h.2

theorem opsOk_take {N : Nat} : ∀ {l : List Ins} (i : Nat), opsOk N l = true → opsOk N (l.take i) = true
 | [], i, h => by simp [opsOk]
 | x :: l, 0, h => by simp [opsOk]
 | x :: l, i + 1, h => by
  simp only [opsOk, List.take_succ_cons, Bool.and_eq_true] at h ⊢
  exact ⟨h.1, opsOk_take i h.2⟩

theorem opsOk_drop {N : Nat} : ∀ {l : List Ins} (i : Nat), opsOk N l = true → opsOk N (l.drop i) = true
 | [], i, h => by simp [opsOk]
 | x :: l, 0, h => by simpa using h
 | x :: l, i + 1, h => by
  simp only [opsOk, Bool.and_eq_true] at h
  simpa using opsOk_drop i h.2

theorem opsOk_get {N : Nat} : ∀ {l : List Ins} {i : Nat} {x : Ins}, opsOk N l = true → l[i]? = some x → dstOk N x.dst = true
 | [], i, x, h, hx => by simp at hx
 | y :: l, 0, x, h, hx => by simp only [opsOk, Bool.and_eq_true] at h; simp at hx; subst hx; exact h.1
 | y :: l, i + 1, x, h, hx => by simp only [opsOk, Bool.and_eq_true] at h; simp at hx; exact opsOk_get h.2 hx

theorem OT.virtual {l : List Ins} {e : Env} {h : Heap} {tr : List Mark1} {e' : Env} {h' : Heap} (ho : OT P H0 l e h tr e' h') {ops : Array Oper} {os : List Oper}
  (hos : os.map (compIns P ops) = l) {N : Nat} (hok : opsOk N l = true) {ρ : Rho} {D : Dom} {w : World} {a : Act} (hi : Inv P H0 ρ D h w) (he : EInv ρ D N e a) (i : Nat) :
  ∃ ρ' w' a', Inv P H0 ρ' (grow D h.next (heapAt tr h' i).next) (heapAt tr h' i) w' ∧ EInv ρ' (grow D h.next (heapAt tr h' i).next) N (envAt l tr i e) a' ∧ h.next ≤ (heapAt tr h' i).next := by
 have := plain_region (ro := none) (n := 0) (ho.take i) (ops := ops) (os := os.take i) (by rw [List.map_take, hos]) (opsOk_take i hok) hi he
  (Q := fun _ a' w' => ∃ ρ', Inv P H0 ρ' (grow D h.next (heapAt tr h' i).next) (heapAt tr h' i) w' ∧ EInv ρ' (grow D h.next (heapAt tr h' i).next) N (envAt l tr i e) a' ∧ h.next ≤ (heapAt tr h' i).next)
  (fun ρ' w' a' g1 g2 g3 g4 => ⟨ρ', g1, g3, g2.next⟩)
 obtain ⟨_, a', w', ρ', g⟩ := wpListIn_exists this
 exact ⟨ρ', w', a', g⟩

theorem OT.drop : ∀ {l : List Ins} {e : Env} {h : Heap} {tr : List Mark1} {e' : Env} {h' : Heap}, OT P H0 l e h tr e' h' → ∀ i : Nat,
  OT P H0 (l.drop i) (envAt l tr i e) (heapAt tr h' i) (tr.drop i) e' h'
 | [], e, h, tr, e', h', ho, i => by
  cases tr with
  | cons _ _ => simp [OT] at ho
  | nil => simp only [OT] at ho; obtain ⟨rfl, rfl⟩ := ho; cases i <;> simp [OT, envAt, heapAt, nextHeap]
 | y :: l, e, h, tr, e', h', ho, i => by
  cases tr with
  | nil => simp [OT] at ho
  | cons m tr =>
   cases i with
   | zero =>
    have := ho.zero
    simpa [envAt, this] using ho
   | succ i =>
    simp only [OT] at ho
    simp only [List.drop_succ_cons, envAt]
    rcases ho.2.2 with ⟨h1, h2, h3, hr⟩ | ⟨h1, h2, h4, h3, hr⟩
    ·have := hr.drop i
     rw [h3]
     exact this
    ·exact hr.drop i

theorem heapAt_drop (tr : List Mark1) (h' : Heap) (i j : Nat) : heapAt (tr.drop i) h' j = heapAt tr h' (i + j) := by
 unfold heapAt; rw [List.drop_drop]

structure Tra (P : Program) (H0 : Nat) (D : Dom) (N : Nat) (l : List Ins) (e : Env) (h : Heap) (tr : List Mark1) (h' : Heap) : Prop where
 mono : ∀ i j, i ≤ j → (heapAt tr h' i).next ≤ (heapAt tr h' j).next
 low : ∀ i, h.next ≤ (heapAt tr h' i).next
 top : ∀ i b, (heapAt tr h' i).next ≤ b → (heapAt tr h' i).get b = none
 run : ∀ i, ∃ ρ' w' a', Inv P H0 ρ' (grow D h.next (heapAt tr h' i).next) (heapAt tr h' i) w' ∧ EInv ρ' (grow D h.next (heapAt tr h' i).next) N (envAt l tr i e) a'

theorem OT.tra {l : List Ins} {e : Env} {h : Heap} {tr : List Mark1} {e' : Env} {h' : Heap} (ho : OT P H0 l e h tr e' h') {ops : Array Oper} {os : List Oper}
  (hos : os.map (compIns P ops) = l) {N : Nat} (hok : opsOk N l = true) {ρ : Rho} {D : Dom} {w : World} {a : Act} (hi : Inv P H0 ρ D h w) (he : EInv ρ D N e a) :
  Tra P H0 D N l e h tr h' where
 mono := fun i j hij => by
  obtain ⟨ρ', w', a', g1, g2, g3⟩ := ho.virtual hos hok hi he i
  obtain ⟨_, _, _, _, _, g⟩ := (ho.drop i).virtual (os := os.drop i) (by rw [List.map_drop, hos]) (opsOk_drop i hok) g1 g2 (j - i)
  rw [heapAt_drop] at g
  have : i + (j - i) = j := by omega
  rw [this] at g
  exact g
 low := fun i => by
  obtain ⟨_, _, _, _, _, g⟩ := ho.virtual hos hok hi he i
  exact g
 top := fun i => by
  obtain ⟨_, _, _, g, _, _⟩ := ho.virtual hos hok hi he i
  exact g.top
 run := fun i => by
  obtain ⟨ρ', w', a', g1, g2, _⟩ := ho.virtual hos hok hi he i
  exact ⟨ρ', w', a', g1, g2⟩
end

/- Two domains at once. -/
mutual
theorem inD_inter {D D' : Dom} : ∀ {v : AV}, v.inD D → v.inD D' → v.inD fun b => D b ∧ D' b
 | .bool _, _, _ | .int _ _, _, _ | .str _, _, _ | .nilp, _, _ | .nils, _, _ | .wild _, _, _ | .nilm, _, _ | .nilf, _, _ | .nili, _, _ => by simp [AV.inD]
 | .ptr b o, h, h' => by simp only [AV.inD] at *; exact ⟨h, h'⟩
 | .sl b o l c op, h, h' => by simp only [AV.inD] at *; exact ⟨h, h'⟩
 | .rest b o k, h, h' => by simp only [AV.inD] at *; exact ⟨h, h'⟩
 | .map b, h, h' => by simp only [AV.inD] at *; exact ⟨h, h'⟩
 | .yield b, h, h' => by simp only [AV.inD] at *; exact ⟨h, h'⟩
 | .func fn first capt, h, h' => by
  simp only [AV.inD] at *
  exact ⟨h.1, allD_inter h.2.1 h'.2.1, allD_inter h.2.2 h'.2.2⟩
 | .iface t v, h, h' => by
  simp only [AV.inD] at *
  exact inD_inter h h'
 | .agg cs, h, h' => by
  simp only [AV.inD] at *
  exact allD_inter h h'
 | .tup cs, h, h' => by
  simp only [AV.inD] at *
  exact allD_inter h h'
 | .fz _ _, h, h' => by simp only [AV.inD] at h
 | .fp _ _, h, h' => by simp only [AV.inD] at h
theorem allD_inter {D D' : Dom} : ∀ {l : List AV}, allD D l → allD D' l → allD (fun b => D b ∧ D' b) l
 | [], _, _ => by simp [allD]
 | v :: vs, h, h' => by
  simp only [allD] at *
  exact ⟨inD_inter h.1 h'.1, allD_inter h.2 h'.2⟩
end

theorem blkReal_inter {P : Program} {H0 : Nat} {ρ ρ' : Rho} {D D' : Dom} {L L' : Loc} {x : Blk} {w w' : World} (h : blkReal P H0 ρ D L x w) (h' : blkReal P H0 ρ' D' L' x w') :
  blkReal P H0 ρ (fun b => D b ∧ D' b) L x w := by
 cases x with
 | cells vs wr es =>
  obtain ⟨c, t, fr, hc, h1, h2⟩ := h
  obtain ⟨c', t', fr', hc', h1', h2'⟩ := h'
  exact ⟨c, t, fr, hc, fun i v hv => ⟨(h1 i v hv).1, inD_inter (h1 i v hv).2 (h1' i v hv).2⟩, h2⟩
 | map es bs c =>
  obtain ⟨ms, k, hc, h0, h1, h2, h3⟩ := h
  obtain ⟨ms', k', hc', h0', h1', h2', _⟩ := h'
  exact ⟨ms, k, hc, h0, h1, fun p hp => ⟨inD_inter (h2 p hp).1 (h2' p hp).1, inD_inter (h2 p hp).2 (h2' p hp).2⟩, h3⟩
 | iter m since seen last =>
  obtain ⟨h0, hm, ho, sn, hc, hs⟩ := h
  exact ⟨h0, ⟨hm, h'.2.1⟩, ho, sn, hc, hs⟩
 | loop st pend e ps a b =>
  obtain ⟨h0, l, hl, g1, g2, g3, g4, g5⟩ := h
  obtain ⟨h0', l', hl', g1', g2', g3', g4', g5'⟩ := h'
  exact ⟨h0, l, hl, g1, g2, g3, fun i => inD_inter (g4 i) (g4' i), g5⟩
 | defers => exact h

end Ads
end Go.Proofs.Ytlndlbngfgaoeaa

set_option linter.unusedSimpArgs false
set_option linter.unusedVariables false
namespace Go.Proofs.Ytlndlbngfgaoeaa
namespace Ads

def Bef (bs : List Nat) (j i : Nat) : Prop := (bs.getD j 0).testBit i = true

structure Rg (P : Program) (H0 : Nat) (D : Dom) (N : Nat) (l : List Ins) (bs : List Nat) (e : Env) (h : Heap) (tr : List Mark1) (e' : Env) (h' : Heap) : Prop where
 ot : OT P H0 l e h tr e' h'
 tra : Tra P H0 D N l e h tr h'
 dlt : ∀ b, D b → b < h.next
 pairs : ∀ (i j : Nat) (x y : Ins), i < j → l[i]? = some x → l[j]? = some y → Bef bs j i ∨ (¬(isEff x.op = true ∧ isEff y.op = true) ∧ apartI x y = true)
 ok : opsOk N l = true

section
variable {P : Program} {H0 : Nat} {D : Dom} {N : Nat} {l : List Ins} {bs : List Nat} {e : Env} {h : Heap} {tr : List Mark1} {e' : Env} {h' : Heap}

theorem Rg.le_last (R : Rg P H0 D N l bs e h tr e' h') (c : Nat) : (heapAt tr h' c).next ≤ h'.next := by
 by_cases hc : c ≤ l.length
 ·have := R.tra.mono c l.length hc
  rwa [R.ot.last (Nat.le_refl _)] at this
 ·rw [R.ot.last (by omega)]
  exact Nat.le_refl _

theorem Rg.made (R : Rg P H0 D N l bs e h tr e' h') {j : Nat} {x : Ins} {m : Mark1} {b : Blk} (hx : l[j]? = some x) (hm : tr[j]? = some m) (hb : madeBy x m = some b) :
  (∃ o f, x.op = .a o ∧ m.on = true ∧ aI o m.vals = some (b, f) ∧ m.v = f (heapAt tr h' j).next) ∧ heapAt tr h' (j + 1) = (heapAt tr h' j).new b ∧ m.h = heapAt tr h' j := by
 obtain ⟨m', g1, g2, g3, g4⟩ := R.ot.at hx
 rw [hm] at g1
 cases g1
 unfold madeBy at hb
 split at hb
 ·rename_i o ho hon
  simp only [Option.map_eq_some_iff] at hb
  obtain ⟨⟨b', f⟩, hb, rfl⟩ := hb
  rcases g4 with g4 | ⟨k1, k2, k3⟩
  ·rw [g4.1] at hon; simp at hon
  ·rw [ho] at k3
   obtain ⟨x', f', q1, q2, q3⟩ := k3
   rw [hb] at q1
   cases q1
   exact ⟨⟨o, f, ho, hon, hb, q2⟩, q3, g2⟩
 ·simp at hb

theorem Rg.still (R : Rg P H0 D N l bs e h tr e' h') {j : Nat} {x : Ins} {m : Mark1} (hx : l[j]? = some x) (hm : tr[j]? = some m) (hb : madeBy x m = none) (he : isEff x.op = false) :
  heapAt tr h' (j + 1) = heapAt tr h' j := by
 obtain ⟨m', g1, g2, g3, g4⟩ := R.ot.at hx
 rw [hm] at g1
 cases g1
 rcases g4 with g4 | ⟨k1, k2, k3⟩
 ·exact g4.2.2.2
 ·cases ho : x.op with
  | p o => rw [ho] at k3; exact k3.2
  | r o => rw [ho] at k3; exact k3.2
  | a o =>
   rw [ho] at k3
   obtain ⟨x', f', q1, q2, q3⟩ := k3
   unfold madeBy at hb
   rw [ho, k1] at hb
   simp [q1] at hb
  | bad => rw [ho] at k3; exact k3.elim
  | e o => rw [ho] at he; simp [isEff] at he
  | call => rw [ho] at he; simp [isEff] at he
  | invoke s => rw [ho] at he; simp [isEff] at he
  | panic => rw [ho] at he; simp [isEff] at he

theorem Rg.tr_some (R : Rg P H0 D N l bs e h tr e' h') {j : Nat} {x : Ins} (hx : l[j]? = some x) : ∃ m, tr[j]? = some m := by
 obtain ⟨m, g, _⟩ := R.ot.at hx
 exact ⟨m, g⟩

theorem Rg.id_lt (R : Rg P H0 D N l bs e h tr e' h') {j i : Nat} {x : Ins} {m : Mark1} {b : Blk} (hx : l[j]? = some x) (hm : tr[j]? = some m) (hb : madeBy x m = some b) (hji : j < i) :
  (heapAt tr h' j).next < (heapAt tr h' i).next := by
 have h1 := R.made hx hm hb
 have h2 := R.tra.mono (j + 1) i (by omega)
 rw [h1.2.1] at h2
 simp at h2
 omega

theorem Rg.u_low (R : Rg P H0 D N l bs e h tr e' h') {c b : Nat} (hb : b < (heapAt tr h' c).next) : (heapU l tr h' c).get b = (heapAt tr h' c).get b := by
 refine over_ne _ _ _ b ?_
 intro j x m hx hm hne
 rw [List.getElem?_drop] at hx hm
 obtain ⟨bk, hbk⟩ := Option.ne_none_iff_exists'.1 hne
 rw [(R.made hx hm hbk).2.2]
 have := R.tra.mono c (c + j) (by omega)
 omega

theorem over_get : ∀ (l : List Ins) (tr : List Mark1) (t : Tr Blk) (j : Nat) (x : Ins) (m : Mark1) (b : Blk), l[j]? = some x → tr[j]? = some m → madeBy x m = some b →
  (∀ (i : Nat) (y : Ins) (n : Mark1), j < i → l[i]? = some y → tr[i]? = some n → madeBy y n ≠ none → n.h.next ≠ m.h.next) → (over l tr t).get m.h.next = some b
 | [], tr, t, j, x, m, b, hx, hm, hb, hi => by simp at hx
 | y :: l, [], t, j, x, m, b, hx, hm, hb, hi => by simp at hm
 | y :: l, n :: tr, t, 0, x, m, b, hx, hm, hb, hi => by
  simp at hx hm
  subst hx
  subst hm
  simp only [over, hb]
  rw [over_ne, Tr.get_set, if_pos rfl]
  intro i z k hz hk hne
  exact hi (i + 1) z k (by omega) (by simpa using hz) (by simpa using hk) hne
 | y :: l, n :: tr, t, j + 1, x, m, b, hx, hm, hb, hi => by
  have := fun t => over_get l tr t j x m b (by simpa using hx) (by simpa using hm) hb (fun i z k hlt hz hk => hi (i + 1) z k (by omega) (by simpa using hz) (by simpa using hk))
  simp only [over]
  split
  ·exact this _
  ·exact this _

theorem Rg.u_made (R : Rg P H0 D N l bs e h tr e' h') {c j : Nat} {x : Ins} {m : Mark1} {b : Blk} (hx : l[j]? = some x) (hm : tr[j]? = some m) (hb : madeBy x m = some b) (hc : c ≤ j) :
  (heapU l tr h' c).get (heapAt tr h' j).next = some b := by
 have hmh := (R.made hx hm hb).2.2
 have := over_get (l.drop c) (tr.drop c) (nextHeap (tr.drop c) h').m (j - c) x m b (by rw [List.getElem?_drop]; rw [show c + (j - c) = j by omega]; exact hx)
  (by rw [List.getElem?_drop]; rw [show c + (j - c) = j by omega]; exact hm) hb (fun i y n hlt hy hn hne => by
   rw [List.getElem?_drop] at hy hn
   obtain ⟨bk, hbk⟩ := Option.ne_none_iff_exists'.1 hne
   rw [(R.made hy hn hbk).2.2, hmh]
   have := R.id_lt hx hm hb (i := c + i) (by omega)
   omega)
 rw [hmh] at this
 exact this

theorem Rg.u_top (R : Rg P H0 D N l bs e h tr e' h') {c b : Nat} (hb : h'.next ≤ b) : (heapU l tr h' c).get b = none := by
 have : (heapU l tr h' c).get b = (heapAt tr h' c).get b := by
  refine over_ne _ _ _ b ?_
  intro j x m hx hm hne
  rw [List.getElem?_drop] at hx hm
  obtain ⟨bk, hbk⟩ := Option.ne_none_iff_exists'.1 hne
  rw [(R.made hx hm hbk).2.2]
  have h1 := R.id_lt hx hm hbk (i := c + j + 1) (by omega)
  have h2 := R.le_last (c + j + 1)
  omega
 rw [this]
 exact R.tra.top c b (Nat.le_trans (R.le_last c) hb)

theorem drop_cons {α : Type} {l : List α} {i : Nat} {x : α} (h : l[i]? = some x) : l.drop i = x :: l.drop (i + 1) := by
 obtain ⟨hlt, rfl⟩ := List.getElem?_eq_some_iff.1 h
 exact List.drop_eq_getElem_cons hlt

theorem Rg.u_same (R : Rg P H0 D N l bs e h tr e' h') {i : Nat} {x : Ins} (hx : l[i]? = some x) (he : isEff x.op = false) (b : Nat) :
  (heapU l tr h' i).get b = (heapU l tr h' (i + 1)).get b := by
 obtain ⟨m, hm⟩ := R.tr_some hx
 show (over (l.drop i) (tr.drop i) (heapAt tr h' i).m).get b = (over (l.drop (i + 1)) (tr.drop (i + 1)) (heapAt tr h' (i + 1)).m).get b
 rw [drop_cons hx, drop_cons hm]
 simp only [over]
 cases hb : madeBy x m with
 | none => simp only []; rw [R.still hx hm hb he]
 | some bk =>
  simp only []
  have := R.made hx hm hb
  rw [this.2.1, this.2.2]
  rfl

theorem Rg.u_between (R : Rg P H0 D N l bs e h tr e' h') {c : Nat} (b : Nat) : ∀ (k : Nat), (∀ j x, c ≤ j → j < c + k → l[j]? = some x → isEff x.op = false) → (heapU l tr h' c).get b = (heapU l tr h' (c + k)).get b
 | 0, _ => rfl
 | k + 1, hn => by
  rw [R.u_between b k (fun j x h1 h2 => hn j x h1 (by omega))]
  cases hx : l[c + k]? with
  | some x => exact R.u_same hx (hn (c + k) x (by omega) (by omega) hx) b
  | none =>
   have hlen : l.length ≤ c + k := List.getElem?_eq_none_iff.1 hx
   show (over (l.drop (c + k)) (tr.drop (c + k)) (heapAt tr h' (c + k)).m).get b = (over (l.drop (c + k + 1)) (tr.drop (c + k + 1)) (heapAt tr h' (c + k + 1)).m).get b
   have e1 : l.drop (c + k) = [] := List.drop_eq_nil_of_le hlen
   have e2 : l.drop (c + k + 1) = [] := List.drop_eq_nil_of_le (by omega)
   rw [R.ot.last hlen, R.ot.last (i := c + k + 1) (by omega), e1, e2]
   simp [over]

theorem Rg.u_eff (R : Rg P H0 D N l bs e h tr e' h') {i : Nat} {x : Ins} (hx : l[i]? = some x) (he : isEff x.op = true) {b : Nat} (hb : (heapAt tr h' (i + 1)).next ≤ b) :
  (heapU l tr h' i).get b = (heapU l tr h' (i + 1)).get b := by
 obtain ⟨m, hm⟩ := R.tr_some hx
 show (over (l.drop i) (tr.drop i) (heapAt tr h' i).m).get b = (over (l.drop (i + 1)) (tr.drop (i + 1)) (heapAt tr h' (i + 1)).m).get b
 rw [drop_cons hx, drop_cons hm]
 have hn : madeBy x m = none := by
  unfold madeBy
  split
  ·rename_i o ho hon; rw [ho] at he; simp [isEff] at he
  ·rfl
 simp only [over, hn]
 refine over_congr _ _ _ _ b ?_
 have h1 := R.tra.top (i + 1) b hb
 have h2 := R.tra.top i b (Nat.le_trans (R.tra.mono i (i + 1) (by omega)) hb)
 unfold Heap.get at h1 h2
 rw [h1, h2]

def Cut (l : List Ins) (S : Nat → Bool) (c : Nat) : Prop := ∀ j x, l[j]? = some x → isEff x.op = true → (S j = true ↔ j < c)

theorem Rg.u_cut (R : Rg P H0 D N l bs e h tr e' h') {S : Nat → Bool} {c c' : Nat} (h1 : Cut l S c) (h2 : Cut l S c') (b : Nat) : (heapU l tr h' c).get b = (heapU l tr h' c').get b := by
 have key : ∀ c c', c ≤ c' → Cut l S c → Cut l S c' → (heapU l tr h' c).get b = (heapU l tr h' c').get b := by
  intro c c' hle g1 g2
  have := R.u_between (c := c) b (c' - c) (fun j x hj1 hj2 hx => by
   cases hx' : isEff x.op with
   | false => rfl
   | true =>
    have a1 := g1 j x hx hx'
    have a2 := g2 j x hx hx'
    have := a1.1 (a2.2 (by omega))
    omega)
  rwa [show c + (c' - c) = c' by omega] at this
 by_cases hle : c ≤ c'
 ·exact key c c' hle h1 h2
 ·exact (key c' c (by omega) h2 h1).symm

def DS (D : Dom) (l : List Ins) (tr : List Mark1) (h' : Heap) (S : Nat → Bool) : Dom := fun b =>
 D b ∨ ∃ j, S j = true ∧ j < l.length ∧ (heapAt tr h' j).next ≤ b ∧ b < (heapAt tr h' (j + 1)).next

structure J (P : Program) (H0 : Nat) (D : Dom) (N : Nat) (l : List Ins) (bs : List Nat) (e : Env) (h : Heap) (tr : List Mark1) (h' : Heap) (ρ0 : Rho) (w0 : World) (a0 : Act)
  (S : Nat → Bool) (c : Nat) (ρ : Rho) (a : Act) (w : World) : Prop where
 cut : Cut l S c
 closed : ∀ j, S j = true → ∀ i, Bef bs j i → S i = true
 inv : Inv P H0 ρ (DS D l tr h' S) (heapU l tr h' c) w
 ext : Ext ρ0 D h w0 ρ (heapU l tr h' c) w
 made : ∀ (j : Nat) (x : Ins) (m : Mark1) (bk : Blk), l[j]? = some x → tr[j]? = some m → madeBy x m = some bk → S j = false → (heapU l tr h' c).get (heapAt tr h' j).next = some bk
 env : EInv ρ (DS D l tr h' S) N (envOf S l tr e) a
 defers : a.defers = a0.defers

theorem Inv.congr {ρ : Rho} {h2 : Heap} {w : World} (i : Inv P H0 ρ D h w) (hn : h2.next = h.next) (hg : ∀ b, h2.get b = h.get b) : Inv P H0 ρ D h2 w := by
 have hwr : ∀ b, h2.wr b = h.wr b := fun b => by simp only [Heap.wr, hg]
 refine ⟨fun b hb => by rw [hn]; exact i.lt b hb, fun b hb => by rw [hg]; exact i.top b (by omega), i.low, fun b x hb hx => i.blk b x hb (by rw [← hg]; exact hx), fun b b' hb hb' hne hw hx => ?_⟩
 rw [hwr] at hw
 rw [hg] at hx
 exact i.apart b b' hb hb' hne hw hx

theorem Ext.congr {ρ ρ' : Rho} {h2 h3 : Heap} {w w' : World} (x : Ext ρ D h w ρ' h2 w') (hn : h3.next = h2.next) (hg : ∀ b, h3.get b = h2.get b) : Ext ρ D h w ρ' h3 w' := by
 have hwr : ∀ b, h3.wr b = h2.wr b := fun b => by simp only [Heap.wr, hg]
 exact ⟨by rw [hn]; exact x.next, x.agree, x.size, x.frame, fun b h1 h2 => by rw [hg]; exact x.aframe b h1 h2, fun b h1 h2 => by rw [hg] at h2; rw [hwr]; exact x.old b h1 h2,
  fun b h1 h2 => x.fresh b h1 (by omega), x.tape, x.os, x.output⟩

theorem EInv.congr {ρ : Rho} {e1 e2 : Env} {a : Act} (he : EInv ρ D N e1 a) (hg : ∀ d, e2.get d = e1.get d) : EInv ρ D N e2 a :=
 ⟨he.size, fun i => by rw [hg]; exact he.get i, fun i => by rw [hg]; exact he.dom i⟩

theorem Rg.cut_step (R : Rg P H0 D N l bs e h tr e' h') {S : Nat → Bool} {c i : Nat} {x : Ins} (hcut : Cut l S c) (hcl : ∀ j, S j = true → ∀ i, Bef bs j i → S i = true) (hx : l[i]? = some x) (hsi : S i = false)
  (hpre : ∀ j, Bef bs i j → S j = true) : Cut l (fun j => S j || decide (j = i)) (cond (isEff x.op) (i + 1) c) ∧ (isEff x.op = true → Cut l S i) := by
 have hi : isEff x.op = true → Cut l S i := by
  intro he j y hy hey
  constructor
  ·intro hs
   by_cases hji : j < i
   ·exact hji
   ·have hne : j ≠ i := by rintro rfl; rw [hs] at hsi; simp at hsi
    rcases R.pairs i j x y (by omega) hx hy with hb | hb
    ·have := hcl j hs i hb; rw [this] at hsi; simp at hsi
    ·exact absurd ⟨he, hey⟩ hb.1
  ·intro hji
   rcases R.pairs j i y x hji hy hx with hb | hb
   ·exact hpre j hb
   ·exact absurd ⟨hey, he⟩ hb.1
 refine ⟨?_, hi⟩
 cases he : isEff x.op with
 | true =>
  intro j y hy hey
  have := hi he j y hy hey
  by_cases hji : j = i
  ·subst hji; simp
  ·simp [hji, this]; omega
 | false =>
  intro j y hy hey
  have hne : j ≠ i := by rintro rfl; rw [hx] at hy; cases hy; rw [he] at hey; simp at hey
  simp [hne, hcut j y hy hey]

theorem Rg.slot (R : Rg P H0 D N l bs e h tr e' h') {S : Nat → Bool} {i : Nat} {x : Ins} (hcl : ∀ j, S j = true → ∀ i, Bef bs j i → S i = true) (hx : l[i]? = some x) (hsi : S i = false)
  (hpre : ∀ j, Bef bs i j → S j = true) {d : Nat} (hd : d ∈ x.reads) : (envOf S l tr e).get d = (envAt l tr i e).get d := by
 refine envOf_at l tr S i d e e rfl R.ot.length ?_
 intro j y hy hyd
 have hnm : x.names.contains d = true := by simp [Ins.names, hd]
 by_cases hji : j < i
 ·rw [decide_eq_true hji]
  rcases R.pairs j i y x hji hy hx with hb | hb
  ·exact hpre j hb
  ·have := hb.2
   unfold apartI at this
   rw [hyd] at this
   simp only [hnm] at this
   simp at this
 ·rw [decide_eq_false hji]
  by_cases he : j = i
  ·subst he; exact hsi
  ·rcases R.pairs i j x y (by omega) hx hy with hb | hb
   ·cases hs : S j with
    | false => rfl
    | true => have := hcl j hs i hb; rw [this] at hsi; simp at hsi
   ·have := hb.2
    unfold apartI at this
    rw [hyd] at this
    simp only [hnm] at this
    simp at this

theorem Rg.late (R : Rg P H0 D N l bs e h tr e' h') {S : Nat → Bool} {i : Nat} {x : Ins} (hcl : ∀ j, S j = true → ∀ i, Bef bs j i → S i = true) (hx : l[i]? = some x) (hsi : S i = false)
  {d : Nat} {j : Nat} {y : Ins} (hij : i < j) (hy : l[j]? = some y) (hxd : x.dst = some d) (hyd : y.dst = some d) : S j = false := by
 rcases R.pairs i j x y hij hx hy with hb | hb
 ·cases hs : S j with
  | false => rfl
  | true => have := hcl j hs i hb; rw [this] at hsi; simp at hsi
 ·have := hb.2
  unfold apartI at this
  rw [hyd, hxd] at this
  simp [Ins.names, hyd] at this

end
end Ads
end Go.Proofs.Ytlndlbngfgaoeaa

set_option linter.unusedSimpArgs false
set_option linter.unusedVariables false
namespace Go.Proofs.Ytlndlbngfgaoeaa
namespace Ads

section
variable {P : Program} {H0 : Nat} {D : Dom} {N : Nat} {l : List Ins} {bs : List Nat} {e : Env} {h : Heap} {tr : List Mark1} {e' : Env} {h' : Heap}
 {ρ0 : Rho} {w0 : World} {a0 : Act} {S : Nat → Bool} {c : Nat} {ρ : Rho} {a : Act} {w : World} {i : Nat} {x : Ins} {m : Mark1}

def plus1 (S : Nat → Bool) (i : Nat) : Nat → Bool := fun j => S j || decide (j = i)

theorem DS_plus1 (hi : i < l.length) (b : Nat) : DS D l tr h' (plus1 S i) b ↔ DS D l tr h' S b ∨ ((heapAt tr h' i).next ≤ b ∧ b < (heapAt tr h' (i + 1)).next) := by
 constructor
 ·rintro (hb | ⟨j, hs, hj, h1, h2⟩)
  ·exact .inl (.inl hb)
  ·by_cases hji : j = i
   ·subst hji; exact .inr ⟨h1, h2⟩
   ·simp only [plus1, hji, decide_false, Bool.or_false] at hs
    exact .inl (.inr ⟨j, hs, hj, h1, h2⟩)
 ·rintro ((hb | ⟨j, hs, hj, h1, h2⟩) | hb)
  ·exact .inl hb
  ·exact .inr ⟨j, by simp [plus1, hs], hj, h1, h2⟩
  ·exact .inr ⟨i, by simp [plus1], hi, hb.1, hb.2⟩

theorem DS_still (hi : i < l.length) (hs : heapAt tr h' (i + 1) = heapAt tr h' i) : DS D l tr h' (plus1 S i) = DS D l tr h' S := by
 funext b
 rw [eq_iff_iff, DS_plus1 hi, hs]
 constructor
 ·rintro (hb | hb)
  ·exact hb
  ·omega
 ·exact .inl

theorem Heap.wr_congr {h1 h2 : Heap} {b : Nat} (hg : h1.get b = h2.get b) : h1.wr b = h2.wr b := by simp only [Heap.wr, hg]

structure Up (bs : List Nat) (l : List Ins) (tr : List Mark1) (S : Nat → Bool) (i : Nat) (x : Ins) (m : Mark1) : Prop where
 hx : l[i]? = some x
 hm : tr[i]? = some m
 hsi : S i = false
 pre : ∀ j, Bef bs i j → S j = true

theorem Up.lt (u : Up bs l tr S i x m) : i < l.length := (List.getElem?_eq_some_iff.1 u.hx).1

theorem J.next_closed (j : J P H0 D N l bs e h tr h' ρ0 w0 a0 S c ρ a w) (u : Up bs l tr S i x m) : ∀ k, plus1 S i k = true → ∀ k', Bef bs k k' → plus1 S i k' = true := by
 intro k hk k' hb
 simp only [plus1, Bool.or_eq_true, decide_eq_true_eq] at hk ⊢
 rcases hk with hk | rfl
 ·exact .inl (j.closed k hk k' hb)
 ·exact .inl (u.pre k' hb)

theorem J.next_env (R : Rg P H0 D N l bs e h tr e' h') (j : J P H0 D N l bs e h tr h' ρ0 w0 a0 S c ρ a w) (u : Up bs l tr S i x m) {ρ' : Rho} (hag : ∀ b, DS D l tr h' S b → ρ' b = ρ b)
  (hv : m.v.inD (DS D l tr h' (plus1 S i))) : EInv ρ' (DS D l tr h' (plus1 S i)) N (envOf (plus1 S i) l tr e) (a.put x.dst (real ρ' m.v)) := by
 have h1 : EInv ρ' (DS D l tr h' (plus1 S i)) N (envOf S l tr e) a := j.env.mono hag (fun b hb => (DS_plus1 u.lt b).2 (.inl hb))
 refine (h1.put (opsOk_get R.ok u.hx) hv).congr ?_
 intro d
 exact envOf_put l tr S (plus1 S i) i x m e d R.ot.length u.hx u.hm (fun _ => rfl) u.hsi (fun k y hk hy hxd hyd => R.late j.closed u.hx u.hsi hk hy hxd hyd)

theorem J.slots (R : Rg P H0 D N l bs e h tr e' h') (j : J P H0 D N l bs e h tr h' ρ0 w0 a0 S c ρ a w) (u : Up bs l tr S i x m) {d : Nat} (hd : d ∈ x.reads) :
  (envOf S l tr e).get d = (envAt l tr i e).get d := R.slot j.closed u.hx u.hsi u.pre hd

theorem mem_randTmps {rs : List Rand} {t : Nat} (h : Rand.t t ∈ rs) : t ∈ randTmps rs := by
 induction rs with
 | nil => simp at h
 | cons r rs ih =>
  rcases List.mem_cons.1 h with rfl | hh
  ·simp [randTmps]
  ·cases r <;> simp [randTmps, ih hh]

theorem J.vals (R : Rg P H0 D N l bs e h tr e' h') (j : J P H0 D N l bs e h tr h' ρ0 w0 a0 S c ρ a w) (u : Up bs l tr S i x m) : x.args.map (envOf S l tr e).ev = x.args.map (envAt l tr i e).ev := by
 refine List.map_congr_left fun r hr => ?_
 cases r with
 | c v => rfl
 | t d => exact j.slots R u (List.mem_append_right _ (mem_randTmps hr))

theorem J.wanted (R : Rg P H0 D N l bs e h tr e' h') (j : J P H0 D N l bs e h tr h' ρ0 w0 a0 S c ρ a w) (u : Up bs l tr S i x m) : wantedA x (envOf S l tr e) = wantedA x (envAt l tr i e) := by
 unfold wantedA
 cases hg : x.guard with
 | none => rfl
 | some p =>
  obtain ⟨d, want⟩ := p
  simp only
  rw [j.slots R u (by simp [Ins.reads, hg])]

theorem J.quiet (R : Rg P H0 D N l bs e h tr e' h') (j : J P H0 D N l bs e h tr h' ρ0 w0 a0 S c ρ a w) (u : Up bs l tr S i x m) (hst : heapAt tr h' (i + 1) = heapAt tr h' i) (hmb : madeBy x m = none)
  (hv : m.v.inD (DS D l tr h' S)) : J P H0 D N l bs e h tr h' ρ0 w0 a0 (plus1 S i) (cond (isEff x.op) (i + 1) c) ρ (a.put x.dst (real ρ m.v)) w := by
 have hcs := R.cut_step j.cut j.closed u.hx u.hsi u.pre
 have hds : DS D l tr h' (plus1 S i) = DS D l tr h' S := DS_still u.lt hst
 have hgu : ∀ b, (heapU l tr h' (cond (isEff x.op) (i + 1) c)).get b = (heapU l tr h' c).get b := by
  intro b
  cases he : isEff x.op with
  | false => rfl
  | true =>
   rw [R.u_cut j.cut (hcs.2 he) b]
   simp only [cond_true]
   show (over (l.drop (i + 1)) (tr.drop (i + 1)) (heapAt tr h' (i + 1)).m).get b = (over (l.drop i) (tr.drop i) (heapAt tr h' i).m).get b
   rw [drop_cons u.hx, drop_cons u.hm, hst]
   simp only [over, hmb]
 refine ⟨hcs.1, j.next_closed u, ?_, j.ext.congr rfl hgu, ?_, ?_, ?_⟩
 ·rw [hds]; exact j.inv.congr rfl hgu
 ·intro k y n bk hy hn hb hs
  rw [hgu]
  refine j.made k y n bk hy hn hb ?_
  simp only [plus1, Bool.or_eq_false_iff] at hs
  exact hs.1
 ·exact j.next_env R u (fun _ _ => rfl) (by rw [hds]; exact hv)
 ·rw [← j.defers]; cases x.dst <;> rfl

theorem J.next_made (j : J P H0 D N l bs e h tr h' ρ0 w0 a0 S c ρ a w) {c' : Nat} (hg : ∀ (k : Nat) (y : Ins) (n : Mark1) (bk : Blk), l[k]? = some y → tr[k]? = some n → madeBy y n = some bk → S k = false → k ≠ i →
   (heapU l tr h' c).get (heapAt tr h' k).next = some bk → (heapU l tr h' c').get (heapAt tr h' k).next = some bk) :
  ∀ (k : Nat) (y : Ins) (n : Mark1) (bk : Blk), l[k]? = some y → tr[k]? = some n → madeBy y n = some bk → plus1 S i k = false → (heapU l tr h' c').get (heapAt tr h' k).next = some bk := by
 intro k y n bk hy hn hb hs
 simp only [plus1, Bool.or_eq_false_iff, decide_eq_false_iff_not] at hs
 exact hg k y n bk hy hn hb hs.1 hs.2 (j.made k y n bk hy hn hb hs.1)

theorem Rg.not_yet (R : Rg P H0 D N l bs e h tr e' h') {k : Nat} {y : Ins} {n : Mark1} {bk : Blk} (hy : l[k]? = some y) (hn : tr[k]? = some n) (hb : madeBy y n = some bk) (hs : S k = false) :
  ¬ DS D l tr h' S (heapAt tr h' k).next := by
 rintro (hd | ⟨q, hq, hql, h1, h2⟩)
 ·have := R.dlt _ hd
  have := R.tra.low k
  omega
 ·by_cases hqk : q = k
  ·subst hqk; rw [hs] at hq; simp at hq
  ·by_cases hlt : q < k
   ·have := R.tra.mono (q + 1) k (by omega)
    omega
   ·have := R.id_lt hy hn hb (i := q) (by omega)
    omega

theorem J.alloc (R : Rg P H0 D N l bs e h tr e' h') (j : J P H0 D N l bs e h tr h' ρ0 w0 a0 S c ρ a w) (u : Up bs l tr S i x m) {bk : Blk} (hb : madeBy x m = some bk) {obj : Obj}
  (hblk : ∀ ρ' D', (∀ b, DS D l tr h' S b → D' b) → (∀ b, DS D l tr h' S b → ρ' b = ρ b) → blkReal P H0 ρ' D' ⟨w.heap.size, 0, 0⟩ bk (w.alloc obj))
  (hv : m.v.inD (DS D l tr h' (plus1 S i))) :
  J P H0 D N l bs e h tr h' ρ0 w0 a0 (plus1 S i) c (upd ρ (heapAt tr h' i).next ⟨w.heap.size, 0, 0⟩) (a.put x.dst (real (upd ρ (heapAt tr h' i).next ⟨w.heap.size, 0, 0⟩) m.v)) (w.alloc obj) := by
 have hcs := R.cut_step j.cut j.closed u.hx u.hsi u.pre
 obtain ⟨⟨o, f, ho, hon, hai, hmv⟩, hst, hmh⟩ := R.made u.hx u.hm hb
 have hne : isEff x.op = false := by rw [ho]; rfl
 rw [hne] at hcs
 have hnot := R.not_yet u.hx u.hm hb u.hsi
 have hget := j.made i x m bk u.hx u.hm hb u.hsi
 generalize hid : (heapAt tr h' i).next = id at *
 have hnx : (heapAt tr h' (i + 1)).next = id + 1 := by rw [hst]; simp [hid]
 have hds : ∀ b, DS D l tr h' (plus1 S i) b ↔ DS D l tr h' S b ∨ b = id := by
  intro b
  rw [DS_plus1 u.lt, hnx, hid]
  constructor
  ·rintro (hb | hb)
   ·exact .inl hb
   ·exact .inr (by omega)
  ·rintro (hb | rfl)
   ·exact .inl hb
   ·exact .inr (by omega)
 have hag : ∀ b, DS D l tr h' S b → upd ρ id ⟨w.heap.size, 0, 0⟩ b = ρ b := fun b hb => upd_ne _ _ (by rintro rfl; exact hnot hb)
 have hold : ∀ r, r < w.heap.size → (w.alloc obj).heap[r]? = w.heap[r]? := by
  intro r hr
  show (w.heap.push obj)[r]? = _
  rw [Array.getElem?_push, if_neg (by omega)]
 have hsz : (w.alloc obj).heap.size = w.heap.size + 1 := by show (w.heap.push obj).size = _; simp
 have hidlt : id < h'.next := by have := R.le_last (i + 1); omega
 have hidlow : h.next ≤ id := by have := R.tra.low i; omega
 refine ⟨hcs.1, j.next_closed u, ?_, ?_, j.next_made (fun _ _ _ _ _ _ _ _ _ hg => hg), j.next_env R u hag hv, ?_⟩
 ·refine ⟨?_, j.inv.top, by rw [hsz]; have := j.inv.low; omega, ?_, ?_⟩
  ·intro b hb
   rcases (hds b).1 hb with hb | rfl
   ·exact j.inv.lt b hb
   ·exact hidlt
  ·intro b y hb hy
   rcases (hds b).1 hb with hb | rfl
   ·have := j.inv.blk b y hb hy
    rw [hag b hb]
    exact blkReal_keep this (fun b hb => (hds b).2 (.inl hb)) hag (hold _ (blkReal_lt this))
   ·rw [hget] at hy
    cases hy
    rw [upd_self]
    exact hblk _ _ (fun b hb => (hds b).2 (.inl hb)) hag
  ·intro b b' hb hb' hbb hw hg
   rcases (hds b).1 hb with hb | rfl
   ·rw [hag b hb]
    rcases (hds b').1 hb' with hb' | rfl
    ·rw [hag b' hb']; exact j.inv.apart b b' hb hb' hbb hw hg
    ·rw [upd_self]
     have := j.inv.wrlt b hb hw
     simp only
     omega
   ·rcases (hds b').1 hb' with hb' | rfl
    ·rw [hag b' hb', upd_self]
     have := j.inv.ltw hb' hg
     simp only
     omega
    ·exact absurd rfl hbb
 ·have x0 := j.ext
  refine ⟨x0.next, ?_, by rw [hsz]; have := x0.size; omega, ?_, x0.aframe, x0.old, ?_, x0.tape, x0.os, x0.output⟩
  ·intro b hb
   rw [hag b (.inl hb)]; exact x0.agree b hb
  ·intro r hr hf
   rw [hold r (by have := x0.size; omega)]
   exact x0.frame r hr hf
  ·intro b hb1 hb2
   by_cases hbi : b = id
   ·subst hbi
    rw [upd_self]
    exact .inl x0.size
   ·rw [upd_ne _ _ hbi]; exact x0.fresh b hb1 hb2
 ·rw [← j.defers]; cases x.dst <;> rfl
end
end Ads
end Go.Proofs.Ytlndlbngfgaoeaa

set_option linter.unusedSimpArgs false
set_option linter.unusedVariables false
namespace Go.Proofs.Ytlndlbngfgaoeaa
namespace Ads

section
variable {P : Program} {H0 : Nat} {D : Dom} {N : Nat} {l : List Ins} {bs : List Nat} {e : Env} {h : Heap} {tr : List Mark1} {e' : Env} {h' : Heap}
 {ρ0 : Rho} {w0 : World} {a0 : Act} {S : Nat → Bool} {c : Nat} {ρ : Rho} {a : Act} {w : World} {i : Nat} {x : Ins} {m : Mark1} {ro : Option Nat} {n : Nat}

def only (e : Env) : List Nat → Env
 | [] => .nil
 | d :: ds => Tr.set (only e ds) d (e.get d)

theorem only_get (e : Env) (d : Nat) : ∀ ds : List Nat, (only e ds).get d = if d ∈ ds then e.get d else .undef
 | [] => by simp [only, Env.get, Tr.get]
 | x :: ds => by
  show ((Tr.set (only e ds) x (e.get x)).get d).getD .undef = _
  rw [Tr.get_set]
  by_cases hx : d = x
  ·subst hx; simp
  ·rw [if_neg hx]
   have := only_get e d ds
   unfold Env.get at this
   simp only [List.mem_cons, hx, false_or]
   exact this

def actOf (ρ : Rho) (N : Nat) (e : Env) (a : Act) : Act := { a with tmps := Array.ofFn (n := N) fun i => real ρ (e.get i) }

theorem actOf_inv {D : Dom} (hh : ∀ i, N ≤ i → real ρ (e.get i) = Go.undef) (hd : ∀ i, (e.get i).inD D) : EInv ρ D N e (actOf ρ N e a) where
 size := by simp [actOf]
 get := fun i => by
  by_cases hi : i < N
  ·simp [actOf, Array.getD_eq_getD_getElem?, hi]
  ·rw [hh i (by omega)]
   simp [actOf, Array.getD_eq_getD_getElem?, hi]
 dom := hd

theorem comp_operands {op : Op} {iop : IOp} {rs : List Rand} (hc : compOp P op = some (iop, rs)) (he : isEff iop = true) :
  (∀ cs b, op ≠ .select cs b) ∧ ∀ y ∈ op.operands, ∃ r ∈ rs, randOf y = some r := by
 have key : ∀ (xs : List Operand) (rs : List Rand), randsOf xs = some rs → ∀ y ∈ xs, ∃ r ∈ rs, randOf y = some r := by
  intro xs
  induction xs with
  | nil => intro rs h y hy; simp at hy
  | cons z xs ih =>
   intro rs h y hy
   obtain ⟨r, rs', rfl, h1, h2⟩ := rands_cons h
   rcases List.mem_cons.1 hy with rfl | hy
   ·exact ⟨r, by simp, h1⟩
   ·obtain ⟨r', hr', h3⟩ := ih rs' h2 y hy
    exact ⟨r', by simp [hr'], h3⟩
 cases op
 case store t a y =>
  simp only [compOp, Option.bind_eq_some_iff] at hc
  obtain ⟨k, _, hc⟩ := hc
  simp only [one, Option.map_eq_some_iff, Prod.mk.injEq] at hc
  obtain ⟨rs', hr, _, rfl⟩ := hc
  exact ⟨by simp, fun y hy => key _ _ hr y (by simpa [Op.operands] using hy)⟩
 case panic y =>
  simp only [compOp, one, Option.map_eq_some_iff, Prod.mk.injEq] at hc
  obtain ⟨rs', hr, _, rfl⟩ := hc
  exact ⟨by simp, fun y hy => key _ _ hr y (by simpa [Op.operands] using hy)⟩
 case call k =>
  refine ⟨by simp, fun y hy => ?_⟩
  simp only [compOp] at hc
  split at hc
  ·rename_i f hf
   simp only [Option.map_eq_some_iff, Prod.mk.injEq] at hc
   obtain ⟨rs', hr, _, rfl⟩ := hc
   exact key _ _ hr y (by simpa [Op.operands, Call.operands, hf] using hy)
  ·rename_i f nm hf
   simp only [Option.map_eq_some_iff, Prod.mk.injEq] at hc
   obtain ⟨rs', hr, _, rfl⟩ := hc
   exact key _ _ hr y (by simpa [Op.operands, Call.operands, hf] using hy)
  ·rename_i b hf
   have hops : (Op.call k).operands = k.args := by simp [Op.operands, Call.operands, hf]
   rw [hops] at hy
   have hy' : y ∈ k.args.toList := by simpa using hy
   split at hc
   ·exfalso
    repeat' (first
     | (obtain ⟨h2, _⟩ := one_of hc; subst h2; simp [isEff] at he; done)
     | (simp at hc; done)
     | (split at hc))
   ·exfalso; obtain ⟨h2, _⟩ := one_of hc; subst h2; simp [isEff] at he
   ·exfalso; obtain ⟨h2, _⟩ := one_of hc; subst h2; simp [isEff] at he
   ·rename_i s z t u ts hargs htypes
    rw [hargs] at hy'
    split at hc
    ·split at hc
     ·simp at hc
     ·split at hc
      ·split at hc
       ·simp at hc
       ·exact key _ _ (one_of hc).2 y hy'
      ·simp at hc
    ·simp at hc
   ·rename_i s z t ts hargs htypes
    rw [hargs] at hy'
    split at hc
    ·simp only [Option.bind_eq_some_iff] at hc
     obtain ⟨size, hsz, hc⟩ := hc
     exact key _ _ (one_of hc).2 y hy'
    ·simp at hc
   ·rename_i z t hargs htypes
    rw [hargs] at hy'
    split at hc
    ·simp only [Option.bind_eq_some_iff] at hc
     obtain ⟨u, _, hc⟩ := hc
     exact key _ _ (one_of hc).2 y hy'
    ·exfalso; obtain ⟨h2, _⟩ := one_of hc; subst h2; simp [isEff] at he
    ·simp at hc
   ·rename_i z z2 t ts hargs htypes
    rw [hargs] at hy'
    split at hc
    ·split at hc
     ·exact key _ _ (one_of hc).2 y hy'
     ·simp at hc
    ·simp at hc
   ·simp at hc
 case range t x =>
  simp only [compOp] at hc
  split at hc
  ·exact ⟨by simp, fun y hy => key _ _ (one_of hc).2 y (by simpa [Op.operands] using hy)⟩
  ·simp at hc
 case next it s =>
  cases s with
  | true => simp [compOp] at hc
  | false =>
   simp only [compOp] at hc
   exact ⟨by simp, fun y hy => key _ _ (one_of hc).2 y (by simpa [Op.operands] using hy)⟩
 case mapUpdate t m k x =>
  simp only [compOp] at hc
  split at hc
  ·split at hc
   ·exact ⟨by simp, fun y hy => key _ _ (one_of hc).2 y (by simpa [Op.operands] using hy)⟩
   ·exfalso; obtain ⟨h2, _⟩ := one_of hc; subst h2; simp [isEff] at he
   ·exfalso; obtain ⟨h2, _⟩ := one_of hc; subst h2; simp [isEff] at he
   ·simp at hc
  ·simp at hc
 case insert t m k x =>
  simp only [compOp] at hc
  split at hc
  ·split at hc
   ·exact ⟨by simp, fun y hy => key _ _ (one_of hc).2 y (by simpa [Op.operands] using hy)⟩
   ·exfalso; obtain ⟨h2, _⟩ := one_of hc; subst h2; simp [isEff] at he
   ·exfalso; obtain ⟨h2, _⟩ := one_of hc; subst h2; simp [isEff] at he
   ·simp at hc
  ·simp at hc
 case unOp u t y =>
  exfalso
  cases u <;> simp only [compOp] at hc <;> first
   | (obtain ⟨h2, _⟩ := one_of hc; subst h2; simp [isEff] at he; done)
   | (simp at hc; done)
 case makeMap t r =>
  exfalso
  cases r with
  | none => simp only [compOp] at hc; obtain ⟨h2, _⟩ := one_of hc; subst h2; simp [isEff] at he
  | some r => simp [compOp] at hc
 all_goals (exfalso; simp only [compOp] at hc)
 all_goals repeat' (first
  | (simp only [Option.bind_eq_some_iff] at hc; obtain ⟨_, _, hc⟩ := hc)
  | (simp only [Option.map_eq_some_iff] at hc; obtain ⟨_, _, hc⟩ := hc; simp only [Prod.mk.injEq] at hc; obtain ⟨hc, _⟩ := hc; subst hc; simp [isEff] at he; done)
  | (obtain ⟨h2, _⟩ := one_of hc; subst h2; simp [isEff] at he; done)
  | (simp at hc; done)
  | (split at hc))

end
end Ads
end Go.Proofs.Ytlndlbngfgaoeaa

set_option linter.unusedSimpArgs false
set_option linter.unusedVariables false
namespace Go.Proofs.Ytlndlbngfgaoeaa
namespace Ads

section
variable {P : Program} {H0 : Nat} {D : Dom} {N : Nat} {l : List Ins} {bs : List Nat} {e : Env} {h : Heap} {tr : List Mark1} {e' : Env} {h' : Heap}
 {ρ0 : Rho} {w0 : World} {a0 : Act} {S : Nat → Bool} {c : Nat} {ρ : Rho} {a : Act} {w : World} {i : Nat} {x : Ins} {m : Mark1} {ro : Option Nat} {n : Nat}

theorem put_shift {d : Option Nat} {a a2 : Act} {u v : Value} (hd : dstOk N d = true) (h2 : a2.tmps.size = N) (hp : a2.put d u = a2.put d v) : a.put d u = a.put d v := by
 cases d with
 | none => rfl
 | some d =>
  have hlt : d < N := Nat.le_of_ble_eq_true (show Nat.ble (d + 1) N = true from hd)
  have : (a2.tmps.setIfInBounds d u)[d]? = (a2.tmps.setIfInBounds d v)[d]? := congrArg (fun z : Act => z.tmps[d]?) hp
  simp [h2, hlt] at this
  rw [this]

theorem put_defers {d : Option Nat} {a : Act} {v : Value} : (a.put d v).defers = a.defers := by cases d <;> rfl

theorem wpIn_shift {o : Oper} {a a2 : Act} {w : World} {next : Act → World → Prop} {Q : Exit → Act → World → Prop} (hd : dstOk N o.dst = true) (h2 : a2.tmps.size = N)
  (hs : Oper.semAt (FW ro).round a.eval o = Oper.semAt (FW ro).round a2.eval o)
  (h : o.wpIn (FW ro) n P a2 w (fun z w' => ∃ v, z = a2.put o.dst v ∧ next (a.put o.dst v) w') (fun _ _ _ => False)) : o.wpIn (FW ro) n P a w next Q := by
 refine ⟨fun _ _ => trivial, ?_⟩
 rw [hs]
 have h := h.2
 generalize (Oper.semAt (FW ro).round a2.eval o).run P w = r at h
 have key : ∀ (v : Value) (w' : World), (∃ v', a2.put o.dst v = a2.put o.dst v' ∧ next (a.put o.dst v') w') → next (a.put o.dst v) w' := by
  rintro v w' ⟨v', h1, h3⟩
  rw [put_shift (a := a) hd h2 h1]
  exact h3
 cases r with
 | ok x w' =>
  cases x <;> simp only [Oper.uponIn] at h ⊢
  case value v => exact key _ _ h
  case skip => exact key _ _ h
  case defer d =>
   exfalso
   obtain ⟨v, h1, _⟩ := h
   have := congrArg Act.defers h1
   rw [put_defers, put_defers] at this
   have := congrArg List.length this
   simp at this
  case enter f args =>
   exact ⟨h.1, CallsIn.mono h.2 (fun e w'' he => by
    cases e with
    | returned v => exact key _ _ he
    | panicked c => exact he.elim
    | outgrown => obtain ⟨_, _, q⟩ := he; exact q.elim)⟩
  case row row args => exact ⟨h.1, RowsIn.mono h.2 (fun _ _ he => key _ _ he)⟩
  case round l f tmps as bd =>
   exact ⟨h.1, RoundIn.mono h.2 (fun e w'' he => by
    cases e with
    | returned v => exact key _ _ he
    | panicked c => exact he.elim
    | outgrown => obtain ⟨_, _, q⟩ := he; exact q.elim)⟩
  all_goals (first | exact h.elim | skip)
 | halt x w' =>
  cases x <;> simp only [Oper.uponIn] at h

def Din (D : Dom) (l : List Ins) (h : Heap) (tr : List Mark1) (h' : Heap) (S : Nat → Bool) (i : Nat) : Dom := fun b =>
 DS D l tr h' S b ∧ grow D h.next (heapAt tr h' i).next b

theorem din_of (R : Rg P H0 D N l bs e h tr e' h') {b : Nat} (hb : DS D l tr h' S b) (hlt : b < (heapAt tr h' i).next) : Din D l h tr h' S i b := by
 refine ⟨hb, ?_⟩
 rcases hb with hb | ⟨q, _, _, h1, _⟩
 ·exact .inl hb
 ·exact .inr ⟨Nat.le_trans (R.tra.low q) h1, hlt⟩

theorem din_lt (R : Rg P H0 D N l bs e h tr e' h') {b : Nat} (hb : Din D l h tr h' S i b) : b < (heapAt tr h' i).next := by
 rcases hb.2 with hd | hd
 ·exact Nat.lt_of_lt_of_le (R.dlt b hd) (R.tra.low i)
 ·exact hd.2

theorem J.before (R : Rg P H0 D N l bs e h tr e' h') (j : J P H0 D N l bs e h tr h' ρ0 w0 a0 S c ρ a w) (u : Up bs l tr S i x m) (he : isEff x.op = true) :
  (∀ b, b < (heapAt tr h' i).next → (heapAt tr h' i).get b = (heapU l tr h' c).get b) ∧ Inv P H0 ρ (Din D l h tr h' S i) (heapAt tr h' i) w := by
 have hcs := R.cut_step j.cut j.closed u.hx u.hsi u.pre
 have hg : ∀ b, b < (heapAt tr h' i).next → (heapAt tr h' i).get b = (heapU l tr h' c).get b := by
  intro b hb
  rw [R.u_cut j.cut (hcs.2 he) b, R.u_low hb]
 refine ⟨hg, fun b hb => din_lt R hb, fun b hb => R.tra.top i b hb, j.inv.low, ?_, ?_⟩
 ·intro b y hb hy
  have hlt := din_lt R hb
  have h1 := j.inv.blk b y hb.1 (by rw [← hg b hlt]; exact hy)
  obtain ⟨ρv, wv, av, iv, _⟩ := R.tra.run i
  exact blkReal_inter h1 (iv.blk b y hb.2 hy)
 ·intro b b' hb hb' hne hw hx
  exact j.inv.apart b b' hb.1 hb'.1 hne (by rw [← Heap.wr_congr (hg b (din_lt R hb))]; exact hw) (by rw [← hg b' (din_lt R hb')]; exact hx)

theorem J.effect (R : Rg P H0 D N l bs e h tr e' h') (j : J P H0 D N l bs e h tr h' ρ0 w0 a0 S c ρ a w) (u : Up bs l tr S i x m) (he : isEff x.op = true)
  {o : Oper} (hc : compOp P o.op = some (x.op, x.args)) (hdst : x.dst = o.dst) (hmv : m.vals = x.args.map (envAt l tr i e).ev)
  (hop : OpOk P H0 x.op m.vals (heapAt tr h' i) m.v (heapAt tr h' (i + 1))) {next : Act → World → Prop} {Q : Exit → Act → World → Prop}
  (hk : ∀ ρ' w', J P H0 D N l bs e h tr h' ρ0 w0 a0 (plus1 S i) (i + 1) ρ' (a.put x.dst (real ρ' m.v)) w' → next (a.put x.dst (real ρ' m.v)) w') : o.wpIn (FW ro) n P a w next Q := by
 have hcs := R.cut_step j.cut j.closed u.hx u.hsi u.pre
 rw [he] at hcs
 simp only [cond_true] at hcs
 have hcut := hcs.2 trivial
 obtain ⟨hg, hinv⟩ := j.before R u he
 have hmono := R.tra.mono i (i + 1) (by omega)
 obtain ⟨ρv, wv, av, iv, ev⟩ := R.tra.run i
 have honly : ∀ d, d ∈ randTmps x.args → (envOf S l tr e).get d = (envAt l tr i e).get d := fun d hd => j.slots R u (List.mem_append_right _ hd)
 have he2 : EInv ρ (Din D l h tr h' S i) N (only (envOf S l tr e) (randTmps x.args)) (actOf ρ N (only (envOf S l tr e) (randTmps x.args)) a) := by
  refine actOf_inv (fun d hd => ?_) (fun d => ?_)
  ·rw [only_get]
   split
   ·rw [← j.env.get d]
    simp [Array.getD_eq_getD_getElem?, j.env.size, Nat.not_lt.2 hd]
   ·exact real_undef ρ
  ·rw [only_get]
   split
   ·rename_i hmem
    refine inD_inter (j.env.dom d) ?_
    rw [honly d hmem]
    exact ev.dom d
   ·simp [AV.undef, AV.inD, allD]
 have hvals : x.args.map (only (envOf S l tr e) (randTmps x.args)).ev = m.vals := by
  rw [hmv]
  refine List.map_congr_left fun r hr => ?_
  cases r with
  | c v => rfl
  | t d =>
   show (only _ _).get d = (envAt l tr i e).get d
   rw [only_get, if_pos (mem_randTmps hr)]
   exact honly d (mem_randTmps hr)
 obtain ⟨hsel, hoperands⟩ := comp_operands hc he
 have hex : execOp a.eval o = execOp (actOf ρ N (only (envOf S l tr e) (randTmps x.args)) a).eval o := by
  refine execOp_congr o hsel ?_
  intro y hy
  obtain ⟨r, hr, hry⟩ := hoperands y hy
  rw [(rand_real j.env hry).1, (rand_real he2 hry).1]
  cases r with
  | c v => rfl
  | t d =>
   show real ρ ((envOf S l tr e).get d) = real ρ ((only _ _).get d)
   rw [only_get, if_pos (mem_randTmps hr)]
 refine wpIn_shift (N := N) (by rw [← hdst]; exact opsOk_get R.ok u.hx) he2.size (by rw [semAt_of hc, semAt_of hc]; exact hex) ?_
 refine hop.sem o x.args hc ρ _ w _ N _ ro n hinv he2 hvals _ _ ?_
 intro ρ1 w1 i1 x1 hv1
 refine ⟨real ρ1 m.v, rfl, ?_⟩
 let ρ2 : Rho := fun b => if (heapAt tr h' i).next ≤ b ∧ b < (heapAt tr h' (i + 1)).next then ρ1 b else ρ b
 have h2new : ∀ b, (heapAt tr h' i).next ≤ b → b < (heapAt tr h' (i + 1)).next → ρ2 b = ρ1 b := fun b h1 h2 => if_pos ⟨h1, h2⟩
 have h2old : ∀ b, ¬ ((heapAt tr h' i).next ≤ b ∧ b < (heapAt tr h' (i + 1)).next) → ρ2 b = ρ b := fun b h1 => if_neg h1
 have hDSnot : ∀ b, DS D l tr h' S b → ¬ ((heapAt tr h' i).next ≤ b ∧ b < (heapAt tr h' (i + 1)).next) := by
  rintro b (hb | ⟨q, hq, hql, h1, h2⟩) ⟨h3, h4⟩
  ·have := R.dlt b hb
   have := R.tra.low i
   omega
  ·by_cases hqi : q = i
   ·subst hqi; rw [u.hsi] at hq; simp at hq
   ·by_cases hlt : q < i
    ·have := R.tra.mono (q + 1) i (by omega); omega
    ·have := R.tra.mono (i + 1) q (by omega); omega
 have hag : ∀ b, DS D l tr h' S b → ρ2 b = ρ b := fun b hb => h2old b (hDSnot b hb)
 have hag1 : ∀ b, grow (Din D l h tr h' S i) (heapAt tr h' i).next (heapAt tr h' (i + 1)).next b → ρ2 b = ρ1 b := by
  rintro b (hb | hb)
  ·rw [hag b hb.1, x1.agree b hb]
  ·exact h2new b hb.1 hb.2
 have hval : real ρ2 m.v = real ρ1 m.v := real_agree hag1 _ hv1
 have hsub : ∀ b, grow (Din D l h tr h' S i) (heapAt tr h' i).next (heapAt tr h' (i + 1)).next b → DS D l tr h' (plus1 S i) b := by
  rintro b (hb | hb)
  ·exact (DS_plus1 u.lt b).2 (.inl hb.1)
  ·exact (DS_plus1 u.lt b).2 (.inr hb)
 have hsplit : ∀ b, DS D l tr h' (plus1 S i) b → (grow (Din D l h tr h' S i) (heapAt tr h' i).next (heapAt tr h' (i + 1)).next b ∧ b < (heapAt tr h' (i + 1)).next) ∨ (DS D l tr h' S b ∧ (heapAt tr h' (i + 1)).next ≤ b) := by
  intro b hb
  rcases (DS_plus1 u.lt b).1 hb with hb | hb
  ·have := hDSnot b hb
   by_cases hlt : b < (heapAt tr h' i).next
   ·exact .inl ⟨.inl (din_of R hb hlt), by omega⟩
   ·exact .inr ⟨hb, by omega⟩
  ·exact .inl ⟨.inr hb, hb.2⟩
 have hgu : ∀ b, b < (heapAt tr h' (i + 1)).next → (heapU l tr h' (i + 1)).get b = (heapAt tr h' (i + 1)).get b := fun b hb => R.u_low hb
 have hgo : ∀ b, (heapAt tr h' (i + 1)).next ≤ b → (heapU l tr h' (i + 1)).get b = (heapU l tr h' c).get b := by
  intro b hb
  rw [R.u_cut j.cut hcut b, R.u_eff u.hx he hb]
 have hwu : ∀ b, b < (heapAt tr h' (i + 1)).next → (heapU l tr h' (i + 1)).wr b = (heapAt tr h' (i + 1)).wr b := fun b hb => Heap.wr_congr (hgu b hb)
 have hkeep : ∀ b, DS D l tr h' S b → (heapAt tr h' (i + 1)).next ≤ b → (heapU l tr h' c).get b ≠ none → ∀ b0, Din D l h tr h' S i b0 → (heapAt tr h' i).wr b0 = true → (ρ b0).blk ≠ (ρ b).blk := by
  intro b hb hlt hnn b0 hb0 hw0
  have := din_lt R hb0
  exact j.inv.apart b0 b hb0.1 hb (by omega) (by rw [← Heap.wr_congr (hg b0 this)]; exact hw0) hnn
 have hcl := j.next_closed u
 have hjj : J P H0 D N l bs e h tr h' ρ0 w0 a0 (plus1 S i) (i + 1) ρ2 (a.put x.dst (real ρ2 m.v)) w1 := by
  refine ⟨hcs.1, hcl, ?_, ?_, j.next_made ?_, j.next_env R u hag (inD_mono hsub _ hv1), by rw [← j.defers]; exact put_defers⟩
  ·refine ⟨?_, fun b hb => R.u_top hb, i1.low, ?_, ?_⟩
   ·intro b hb
    rcases hsplit b hb with hb | hb
    ·exact Nat.lt_of_lt_of_le hb.2 (R.le_last _)
    ·exact j.inv.lt b hb.1
   ·intro b y hb hy
    rcases hsplit b hb with hb | hb
    ·rw [hgu b hb.2] at hy
     rw [hag1 b hb.1]
     exact blkReal_keep (i1.blk b y hb.1 hy) hsub hag1 rfl
    ·rw [hgo b hb.2] at hy
     rw [hag b hb.1]
     have hbk := j.inv.blk b y hb.1 hy
     refine blkReal_keep hbk (fun b hb => (DS_plus1 u.lt b).2 (.inl hb)) hag ?_
     exact x1.frame _ (blkReal_lt hbk) (hkeep b hb.1 hb.2 (by rw [hy]; simp))
   ·intro b b' hb hb' hne hw hx
    rcases hsplit b hb with hb | hb <;> rcases hsplit b' hb' with hb' | hb'
    ·rw [hag1 b hb.1, hag1 b' hb'.1]
     exact i1.apart b b' hb.1 hb'.1 hne (by rw [← hwu b hb.2]; exact hw) (by rw [← hgu b' hb'.2]; exact hx)
    ·rw [hag1 b hb.1, hag b' hb'.1]
     rw [hgo b' hb'.2] at hx
     rcases hb.1 with hd | hd
     ·rw [x1.agree b hd]
      have hwb : (heapAt tr h' (i + 1)).wr b = true := by rw [← hwu b hb.2]; exact hw
      have := (x1.old b (din_lt R hd) (Heap.wr_some hwb)).2
      exact hkeep b' hb'.1 hb'.2 hx b hd (this hwb)
     ·rcases x1.fresh b hd.1 hd.2 with hf | ⟨b0, k1, k2, k3⟩
      ·have := j.inv.ltw hb'.1 hx
       omega
      ·rw [← k3]
       exact hkeep b' hb'.1 hb'.2 hx b0 k1 k2
    ·rw [hag b hb.1, hag1 b' hb'.1]
     rw [Heap.wr_congr (hgo b hb.2)] at hw
     rw [hgu b' hb'.2] at hx
     rcases hb'.1 with hd | hd
     ·rw [x1.agree b' hd]
      have hlt := din_lt R hd
      have := (x1.old b' hlt hx).1
      rw [hg b' hlt] at this
      exact j.inv.apart b b' hb.1 hd.1 hne hw this
     ·rcases x1.fresh b' hd.1 hd.2 with hf | ⟨b0, k1, k2, k3⟩
      ·have := j.inv.wrlt b hb.1 hw
       omega
      ·rw [← k3]
       exact (hkeep b hb.1 hb.2 (Heap.wr_some hw) b0 k1 k2).symm
    ·rw [hag b hb.1, hag b' hb'.1]
     rw [Heap.wr_congr (hgo b hb.2)] at hw
     rw [hgo b' hb'.2] at hx
     exact j.inv.apart b b' hb.1 hb'.1 hne hw hx
  ·have x0 := j.ext
   have hlow := R.tra.low i
   have hDSlow : ∀ b, DS D l tr h' S b → b < h.next → D b := by
    rintro b (hb | ⟨q, _, _, h1, _⟩) hlt
    ·exact hb
    ·have := R.tra.low q; omega
   have place : ∀ b, DS D l tr h' S b → (heapU l tr h' c).wr b = true → w0.heap.size ≤ (ρ b).blk ∨ ∃ b0, D b0 ∧ h.wr b0 = true ∧ (ρ0 b0).blk = (ρ b).blk := by
    intro b hb hw
    by_cases hlt : b < h.next
    ·have hd := hDSlow b hb hlt
     have := (x0.old b hlt (Heap.wr_some hw)).2
     exact .inr ⟨b, hd, this hw, by rw [x0.agree b hd]⟩
    ·exact x0.fresh b (by omega) (j.inv.lt b hb)
   have place' : ∀ b, Din D l h tr h' S i b → (heapAt tr h' i).wr b = true → w0.heap.size ≤ (ρ b).blk ∨ ∃ b0, D b0 ∧ h.wr b0 = true ∧ (ρ0 b0).blk = (ρ b).blk :=
    fun b hb hw => place b hb.1 (by rw [← Heap.wr_congr (hg b (din_lt R hb))]; exact hw)
   refine ⟨x0.next, ?_, Nat.le_trans x0.size x1.size, ?_, ?_, ?_, ?_, x1.tape.trans x0.tape, x1.os.trans x0.os, x1.output.trans x0.output⟩
   ·intro b hb
    rw [hag b (.inl hb)]; exact x0.agree b hb
   ·intro r hr hf
    rw [x1.frame r (Nat.lt_of_lt_of_le hr x0.size), x0.frame r hr hf]
    intro b hb hw
    rcases place' b hb hw with hp | ⟨b0, k1, k2, k3⟩
    ·omega
    ·rw [← k3]; exact hf b0 k1 k2
   ·intro b hb hd
    have hlt : b < (heapAt tr h' i).next := by omega
    rw [hgu b (by omega), x1.aframe b hlt (fun hin => hd (hDSlow b hin.1 hb)), hg b hlt]
    exact x0.aframe b hb hd
   ·intro b hb hn
    have hlt : b < (heapAt tr h' i).next := by omega
    rw [hgu b (by omega)] at hn
    have k1 := x1.old b hlt hn
    have k2 := x0.old b hb (by rw [← hg b hlt]; exact k1.1)
    refine ⟨k2.1, ?_⟩
    intro hw
    rw [hwu b (by omega)] at hw
    exact k2.2 (by rw [← Heap.wr_congr (hg b hlt)]; exact k1.2 hw)
   ·intro b hb1 hb2
    by_cases hnew : (heapAt tr h' i).next ≤ b ∧ b < (heapAt tr h' (i + 1)).next
    ·rw [h2new b hnew.1 hnew.2]
     rcases x1.fresh b hnew.1 hnew.2 with hf | ⟨b0, k1, k2, k3⟩
     ·exact .inl (Nat.le_trans x0.size hf)
     ·rw [← k3]
      exact place' b0 k1 k2
    ·rw [h2old b hnew]
     exact x0.fresh b hb1 hb2
  ·intro k y q bk hy hq hb hs hki hgc
   by_cases hlt : (heapAt tr h' k).next < (heapAt tr h' i).next
   ·rw [hgu _ (by omega), x1.aframe _ hlt (fun hin => R.not_yet hy hq hb hs hin.1), hg _ hlt]
    exact hgc
   ·have hk1 := R.id_lt hy hq hb (i := k + 1) (by omega)
    have : (heapAt tr h' (i + 1)).next ≤ (heapAt tr h' k).next := by
     rcases Nat.lt_or_ge k i with hlt' | hge
     ·have := R.id_lt hy hq hb hlt'; omega
     ·exact R.tra.mono (i + 1) k (by omega)
    rw [hgo _ this]
    exact hgc
 have := hk ρ2 w1 hjj
 rw [hval] at this
 rw [← hdst]
 exact this
end
end Ads
end Go.Proofs.Ytlndlbngfgaoeaa

