/-
  Regions that draw their order: what a trace in the text's order says of places and stores.
-/
import Derived.Test.YtflmbknimebmnaaAdsSem
set_option linter.unusedSimpArgs false
set_option linter.unusedVariables false
namespace Go.Proofs.Ytflmbknimebmnaa
namespace Ads

def heapAt (tr : List Mark1) (h' : Heap) (i : Nat) : Heap := nextHeap (tr.drop i) h'

/-- The environment ahead of a place. -/
def envAt : List Ins → List Mark1 → Nat → Env → Env
  | x :: l, m :: tr, i + 1, e => envAt l tr i (e.put x.dst m.v)
  | _, _, _, e => e

/-- The environment when some operations are done. -/
def envOf : (Nat → Bool) → List Ins → List Mark1 → Env → Env
  | S, x :: l, m :: tr, e => envOf (fun j => S (j + 1)) l tr (cond (S 0) (e.put x.dst m.v) e)
  | _, _, _, e => e

section
variable {P : Program} {H0 : Nat}

theorem OT.length : ∀ {l : List Ins} {e : Env} {h : Heap} {tr : List Mark1} {e' : Env} {h' : Heap}, OT P H0 l e h tr e' h' → tr.length = l.length
  | [], _, _, tr, _, _, ho => by cases tr <;> simp_all [OT]
  | x :: l, _, _, tr, _, _, ho => by
    cases tr with
    | nil => simp [OT] at ho
    | cons m tr =>
      simp only [OT] at ho
      rcases ho.2.2 with ⟨_, _, _, hr⟩ | ⟨_, _, h1, _, hr⟩ <;> simp [hr.length]

theorem OT.zero {l : List Ins} {e : Env} {h : Heap} {tr : List Mark1} {e' : Env} {h' : Heap} (ho : OT P H0 l e h tr e' h') : heapAt tr h' 0 = h := by
  cases l with
  | nil => cases tr <;> simp_all [OT, heapAt, nextHeap]
  | cons x l => cases tr with
    | nil => simp [OT] at ho
    | cons m tr => simp only [OT] at ho; simp [heapAt, nextHeap, ho.1]

/-- What a trace says at a place. -/
theorem OT.at : ∀ {l : List Ins} {e : Env} {h : Heap} {tr : List Mark1} {e' : Env} {h' : Heap}, OT P H0 l e h tr e' h' → ∀ {i : Nat} {x : Ins}, l[i]? = some x →
    ∃ m, tr[i]? = some m ∧ m.h = heapAt tr h' i ∧ m.vals = x.args.map (envAt l tr i e).ev ∧
      ((m.on = false ∧ wantedA x (envAt l tr i e) = false ∧ m.v = .undef ∧ heapAt tr h' (i + 1) = heapAt tr h' i) ∨
       (m.on = true ∧ wantedA x (envAt l tr i e) = true ∧ OpOk P H0 x.op m.vals (heapAt tr h' i) m.v (heapAt tr h' (i + 1))))
  | [], _, _, _, _, _, _, i, x, hx => by simp at hx
  | y :: l, e, h, tr, e', h', ho, i, x, hx => by
    cases tr with
    | nil => simp [OT] at ho
    | cons m tr =>
      simp only [OT] at ho
      cases i with
      | zero =>
        simp at hx
        subst hx
        refine ⟨m, rfl, rfl, by simpa [envAt] using ho.2.1, ?_⟩
        rcases ho.2.2 with ⟨h1, h2, h3, hr⟩ | ⟨h1, h2, h4, h3, hr⟩
        · refine .inl ⟨h1, by simpa [envAt] using h2, h3, ?_⟩
          show heapAt tr h' 0 = m.h
          rw [hr.zero, ho.1]
        · refine .inr ⟨h1, by simpa [envAt] using h2, ?_⟩
          show OpOk P H0 y.op m.vals m.h m.v (heapAt tr h' 0)
          rw [hr.zero, ho.1]
          exact h3
      | succ i =>
        simp at hx
        rcases ho.2.2 with ⟨h1, h2, h3, hr⟩ | ⟨h1, h2, h4, h3, hr⟩
        · rw [← h3] at hr
          obtain ⟨m', g1, g2, g3, g4⟩ := hr.at hx
          exact ⟨m', by simpa using g1, by simpa [heapAt] using g2, by simpa [envAt] using g3, by simpa [envAt, heapAt] using g4⟩
        · obtain ⟨m', g1, g2, g3, g4⟩ := hr.at hx
          exact ⟨m', by simpa using g1, by simpa [heapAt] using g2, by simpa [envAt] using g3, by simpa [envAt, heapAt] using g4⟩

theorem OT.last {l : List Ins} {e : Env} {h : Heap} {tr : List Mark1} {e' : Env} {h' : Heap} (ho : OT P H0 l e h tr e' h') {i : Nat} (hi : l.length ≤ i) : heapAt tr h' i = h' := by
  unfold heapAt
  rw [List.drop_eq_nil_of_le (by rw [ho.length]; exact hi)]
  rfl

/-- A trace cut short. -/
theorem OT.take : ∀ {l : List Ins} {e : Env} {h : Heap} {tr : List Mark1} {e' : Env} {h' : Heap}, OT P H0 l e h tr e' h' → ∀ i : Nat,
    OT P H0 (l.take i) e h (tr.take i) (envAt l tr i e) (heapAt tr h' i)
  | [], e, h, tr, e', h', ho, i => by
    cases tr with
    | cons _ _ => simp [OT] at ho
    | nil => simp only [OT] at ho; obtain ⟨rfl, rfl⟩ := ho; cases i <;> simp [OT, envAt, heapAt, nextHeap]
  | y :: l, e, h, tr, e', h', ho, i => by
    cases tr with
    | nil => simp [OT] at ho
    | cons m tr =>
      cases i with
      | zero =>
        have := ho.zero
        simp [OT, envAt, this]
      | succ i =>
        simp only [OT] at ho
        simp only [List.take_succ_cons, OT, envAt]
        refine ⟨ho.1, ho.2.1, ?_⟩
        rcases ho.2.2 with ⟨h1, h2, h3, hr⟩ | ⟨h1, h2, h4, h3, hr⟩
        · refine .inl ⟨h1, h2, h3, ?_⟩
          have := hr.take i
          rw [h3]
          simpa [heapAt] using this
        · refine .inr ⟨h1, h2, h4, h3, ?_⟩
          have := hr.take i
          simpa [heapAt] using this

theorem envAt_end : ∀ {l : List Ins} {e : Env} {h : Heap} {tr : List Mark1} {e' : Env} {h' : Heap}, OT P H0 l e h tr e' h' → envAt l tr l.length e = e'
  | [], e, h, tr, e', h', ho => by cases tr <;> simp_all [OT, envAt]
  | y :: l, e, h, tr, e', h', ho => by
    cases tr with
    | nil => simp [OT] at ho
    | cons m tr =>
      simp only [OT] at ho
      simp only [List.length_cons, envAt]
      rcases ho.2.2 with ⟨h1, h2, h3, hr⟩ | ⟨h1, h2, h4, h3, hr⟩
      · rw [h3]; exact envAt_end hr
      · exact envAt_end hr

/- Environments. -/

theorem put_get_of_ne {e : Env} {d : Option Nat} {v : AV} {t : Nat} (h : d ≠ some t) : (e.put d v).get t = e.get t := by rw [env_get_put, if_neg h]

/-- A slot of which as many are done as lie ahead of a place reads as it does there. -/
theorem envOf_at : ∀ (l : List Ins) (tr : List Mark1) (S : Nat → Bool) (i : Nat) (d : Nat) (e1 e2 : Env), e1.get d = e2.get d → tr.length = l.length →
    (∀ j x, l[j]? = some x → x.dst = some d → S j = decide (j < i)) → (envOf S l tr e1).get d = (envAt l tr i e2).get d
  | [], tr, S, i, d, e1, e2, he, hl, hs => by cases tr <;> simp_all [envOf, envAt]
  | x :: l, [], S, i, d, e1, e2, he, hl, hs => by simp at hl
  | x :: l, m :: tr, S, i, d, e1, e2, he, hl, hs => by
    simp only [envOf]
    cases i with
    | zero =>
      have h0 : (cond (S 0) (e1.put x.dst m.v) e1).get d = e2.get d := by
        by_cases hx : x.dst = some d
        · have := hs 0 x rfl hx
          simp at this
          rw [this]; exact he
        · cases S 0
          · exact he
          · simp only [cond_true]; rw [put_get_of_ne hx]; exact he
      have := envOf_at l tr (fun j => S (j + 1)) 0 d _ e2 h0 (by simpa using hl) (fun j y hy hd => by
        have := hs (j + 1) y (by simpa using hy) hd
        simpa using this)
      rw [this]
      cases l <;> cases tr <;> simp [envAt]
    | succ i =>
      simp only [envAt]
      refine envOf_at l tr (fun j => S (j + 1)) i d _ _ ?_ (by simpa using hl) (fun j y hy hd => by
        have := hs (j + 1) y (by simpa using hy) hd
        simpa using this)
      by_cases hx : x.dst = some d
      · have := hs 0 x rfl hx
        simp at this
        rw [this]
        simp only [cond_true]
        rw [env_get_put, env_get_put, if_pos hx, if_pos hx]
      · rw [put_get_of_ne hx]
        cases S 0
        · exact he
        · simp only [cond_true]; rw [put_get_of_ne hx]; exact he

theorem envOf_congr : ∀ (l : List Ins) (tr : List Mark1) (S S' : Nat → Bool) (d : Nat) (e1 e2 : Env), e1.get d = e2.get d → tr.length = l.length →
    (∀ j x, l[j]? = some x → x.dst = some d → S j = S' j) → (envOf S l tr e1).get d = (envOf S' l tr e2).get d
  | [], tr, S, S', d, e1, e2, he, hl, hs => by cases tr <;> simp_all [envOf]
  | x :: l, [], S, S', d, e1, e2, he, hl, hs => by simp at hl
  | x :: l, m :: tr, S, S', d, e1, e2, he, hl, hs => by
    simp only [envOf]
    refine envOf_congr l tr _ _ d _ _ ?_ (by simpa using hl) (fun j y hy hd => hs (j + 1) y (by simpa using hy) hd)
    by_cases hx : x.dst = some d
    · rw [hs 0 x rfl hx]
      cases S' 0
      · exact he
      · simp only [cond_true]; rw [env_get_put, env_get_put, if_pos hx, if_pos hx]
    · cases S 0 <;> cases S' 0 <;> simp only [cond_true, cond_false, put_get_of_ne hx] <;> exact he

/-- One more is done. -/
theorem envOf_put : ∀ (l : List Ins) (tr : List Mark1) (S S' : Nat → Bool) (i : Nat) (x : Ins) (m : Mark1) (e : Env) (d : Nat), tr.length = l.length → l[i]? = some x → tr[i]? = some m →
    (∀ j, S' j = (S j || decide (j = i))) → S i = false → (∀ j y, i < j → l[j]? = some y → x.dst = some d → y.dst = some d → S j = false) →
    (envOf S' l tr e).get d = ((envOf S l tr e).put x.dst m.v).get d
  | [], tr, S, S', i, x, m, e, d, hl, hx, hm, hs, hsi, hlate => by simp at hx
  | y :: l, [], S, S', i, x, m, e, d, hl, hx, hm, hs, hsi, hlate => by simp at hl
  | y :: l, n :: tr, S, S', i, x, m, e, d, hl, hx, hm, hs, hsi, hlate => by
    simp only [envOf]
    cases i with
    | zero =>
      simp at hx hm
      subst hx
      subst hm
      rw [hs 0, hsi]
      simp only [decide_true, Bool.or_true, cond_true, cond_false]
      by_cases hd : y.dst = some d
      · rw [env_get_put, if_pos hd]
        have : (envOf (fun j => S' (j + 1)) l tr (e.put y.dst n.v)).get d = (envAt l tr 0 (e.put y.dst n.v)).get d := by
          refine envOf_at l tr _ 0 d _ _ rfl (by simpa using hl) (fun j z hz hdz => ?_)
          rw [hs (j + 1), hlate (j + 1) z (by omega) (by simpa using hz) hd hdz]
          simp
        rw [this]
        have : envAt l tr 0 (e.put y.dst n.v) = e.put y.dst n.v := by cases l <;> cases tr <;> simp [envAt]
        rw [this, env_get_put, if_pos hd]
      · rw [put_get_of_ne hd]
        refine envOf_congr l tr _ _ d _ _ (put_get_of_ne hd) (by simpa using hl) (fun j z hz hdz => ?_)
        rw [hs (j + 1)]
        simp
    | succ i =>
      simp at hx hm
      have h0 : S' 0 = S 0 := by rw [hs 0]; simp
      rw [h0]
      refine envOf_put l tr _ _ i x m _ d (by simpa using hl) hx hm (fun j => ?_) hsi (fun j z hj hz hdx hdz => hlate (j + 1) z (by omega) (by simpa using hz) hdx hdz)
      rw [hs (j + 1)]
      simp

/- Stores. -/

def uAt (l : List Ins) (tr : List Mark1) (h' : Heap) (c : Nat) : Heap := heapU l tr h' c

theorem over_congr : ∀ (l : List Ins) (tr : List Mark1) (t t' : Tr Blk) (b : Nat), t.get b = t'.get b → (over l tr t).get b = (over l tr t').get b
  | [], tr, t, t', b, h => by cases tr <;> simpa [over] using h
  | x :: l, [], t, t', b, h => by simpa [over] using h
  | x :: l, m :: tr, t, t', b, h => by
    simp only [over]
    split
    · refine over_congr l tr _ _ b ?_
      rw [Tr.get_set, Tr.get_set, h]
    · exact over_congr l tr _ _ b h

/-- What is made later has other numbers. -/
theorem over_ne : ∀ (l : List Ins) (tr : List Mark1) (t : Tr Blk) (b : Nat), (∀ (j : Nat) (x : Ins) (m : Mark1), l[j]? = some x → tr[j]? = some m → madeBy x m ≠ none → m.h.next ≠ b) →
    (over l tr t).get b = t.get b
  | [], tr, t, b, h => by cases tr <;> simp [over]
  | x :: l, [], t, b, h => by simp [over]
  | x :: l, m :: tr, t, b, h => by
    have ht := fun t => over_ne l tr t b (fun j y n hy hn => h (j + 1) y n (by simpa using hy) (by simpa using hn))
    simp only [over]
    split
    · rename_i bk hb
      rw [ht, Tr.get_set, if_neg]
      intro e
      exact h 0 x m rfl rfl (by rw [hb]; simp) e.symm
    · exact ht t
end
end Ads
end Go.Proofs.Ytflmbknimebmnaa
