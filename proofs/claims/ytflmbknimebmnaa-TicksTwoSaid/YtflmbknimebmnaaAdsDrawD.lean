/-
  Regions that draw their order: one operation more is done; those that change no heap.
-/
import Derived.Test.YtflmbknimebmnaaAdsDrawC
set_option linter.unusedSimpArgs false
set_option linter.unusedVariables false
namespace Go.Proofs.Ytflmbknimebmnaa
namespace Ads

section
variable {P : Program} {H0 : Nat} {D : Dom} {N : Nat} {l : List Ins} {bs : List Nat} {e : Env} {h : Heap} {tr : List Mark1} {e' : Env} {h' : Heap}
  {ρ0 : Rho} {w0 : World} {a0 : Act} {S : Nat → Bool} {c : Nat} {ρ : Rho} {a : Act} {w : World} {i : Nat} {x : Ins} {m : Mark1}

def plus1 (S : Nat → Bool) (i : Nat) : Nat → Bool := fun j => S j || decide (j = i)

theorem DS_plus1 (hi : i < l.length) (b : Nat) : DS D l tr h' (plus1 S i) b ↔ DS D l tr h' S b ∨ ((heapAt tr h' i).next ≤ b ∧ b < (heapAt tr h' (i + 1)).next) := by
  constructor
  · rintro (hb | ⟨j, hs, hj, h1, h2⟩)
    · exact .inl (.inl hb)
    · by_cases hji : j = i
      · subst hji; exact .inr ⟨h1, h2⟩
      · simp only [plus1, hji, decide_false, Bool.or_false] at hs
        exact .inl (.inr ⟨j, hs, hj, h1, h2⟩)
  · rintro ((hb | ⟨j, hs, hj, h1, h2⟩) | hb)
    · exact .inl hb
    · exact .inr ⟨j, by simp [plus1, hs], hj, h1, h2⟩
    · exact .inr ⟨i, by simp [plus1], hi, hb.1, hb.2⟩

theorem DS_still (hi : i < l.length) (hs : heapAt tr h' (i + 1) = heapAt tr h' i) : DS D l tr h' (plus1 S i) = DS D l tr h' S := by
  funext b
  rw [eq_iff_iff, DS_plus1 hi, hs]
  constructor
  · rintro (hb | hb)
    · exact hb
    · omega
  · exact .inl

theorem Heap.wr_congr {h1 h2 : Heap} {b : Nat} (hg : h1.get b = h2.get b) : h1.wr b = h2.wr b := by simp only [Heap.wr, hg]

/-- What one operation needs when it comes up. -/
structure Up (bs : List Nat) (l : List Ins) (tr : List Mark1) (S : Nat → Bool) (i : Nat) (x : Ins) (m : Mark1) : Prop where
  hx : l[i]? = some x
  hm : tr[i]? = some m
  hsi : S i = false
  pre : ∀ j, Bef bs i j → S j = true

theorem Up.lt (u : Up bs l tr S i x m) : i < l.length := (List.getElem?_eq_some_iff.1 u.hx).1

theorem J.next_closed (j : J P H0 D N l bs e h tr h' ρ0 w0 a0 S c ρ a w) (u : Up bs l tr S i x m) : ∀ k, plus1 S i k = true → ∀ k', Bef bs k k' → plus1 S i k' = true := by
  intro k hk k' hb
  simp only [plus1, Bool.or_eq_true, decide_eq_true_eq] at hk ⊢
  rcases hk with hk | rfl
  · exact .inl (j.closed k hk k' hb)
  · exact .inl (u.pre k' hb)

theorem J.next_env (R : Rg P H0 D N l bs e h tr e' h') (j : J P H0 D N l bs e h tr h' ρ0 w0 a0 S c ρ a w) (u : Up bs l tr S i x m) {ρ' : Rho} (hag : ∀ b, DS D l tr h' S b → ρ' b = ρ b)
    (hv : m.v.inD (DS D l tr h' (plus1 S i))) : EInv ρ' (DS D l tr h' (plus1 S i)) N (envOf (plus1 S i) l tr e) (a.put x.dst (real ρ' m.v)) := by
  have h1 : EInv ρ' (DS D l tr h' (plus1 S i)) N (envOf S l tr e) a := j.env.mono hag (fun b hb => (DS_plus1 u.lt b).2 (.inl hb))
  refine (h1.put (opsOk_get R.ok u.hx) hv).congr ?_
  intro d
  exact envOf_put l tr S (plus1 S i) i x m e d R.ot.length u.hx u.hm (fun _ => rfl) u.hsi (fun k y hk hy hxd hyd => R.late j.closed u.hx u.hsi hk hy hxd hyd)

theorem J.slots (R : Rg P H0 D N l bs e h tr e' h') (j : J P H0 D N l bs e h tr h' ρ0 w0 a0 S c ρ a w) (u : Up bs l tr S i x m) {d : Nat} (hd : d ∈ x.reads) :
    (envOf S l tr e).get d = (envAt l tr i e).get d := R.slot j.closed u.hx u.hsi u.pre hd

theorem mem_randTmps {rs : List Rand} {t : Nat} (h : Rand.t t ∈ rs) : t ∈ randTmps rs := by
  induction rs with
  | nil => simp at h
  | cons r rs ih =>
    rcases List.mem_cons.1 h with rfl | hh
    · simp [randTmps]
    · cases r <;> simp [randTmps, ih hh]

theorem J.vals (R : Rg P H0 D N l bs e h tr e' h') (j : J P H0 D N l bs e h tr h' ρ0 w0 a0 S c ρ a w) (u : Up bs l tr S i x m) : x.args.map (envOf S l tr e).ev = x.args.map (envAt l tr i e).ev := by
  refine List.map_congr_left fun r hr => ?_
  cases r with
  | c v => rfl
  | t d => exact j.slots R u (List.mem_append_right _ (mem_randTmps hr))

theorem J.wanted (R : Rg P H0 D N l bs e h tr e' h') (j : J P H0 D N l bs e h tr h' ρ0 w0 a0 S c ρ a w) (u : Up bs l tr S i x m) : wantedA x (envOf S l tr e) = wantedA x (envAt l tr i e) := by
  unfold wantedA
  cases hg : x.guard with
  | none => rfl
  | some p =>
    obtain ⟨d, want⟩ := p
    simp only
    rw [j.slots R u (by simp [Ins.reads, hg])]

/-- The heap is as it was. -/
theorem J.quiet (R : Rg P H0 D N l bs e h tr e' h') (j : J P H0 D N l bs e h tr h' ρ0 w0 a0 S c ρ a w) (u : Up bs l tr S i x m) (hst : heapAt tr h' (i + 1) = heapAt tr h' i) (hmb : madeBy x m = none)
    (hv : m.v.inD (DS D l tr h' S)) : J P H0 D N l bs e h tr h' ρ0 w0 a0 (plus1 S i) (cond (isEff x.op) (i + 1) c) ρ (a.put x.dst (real ρ m.v)) w := by
  have hcs := R.cut_step j.cut j.closed u.hx u.hsi u.pre
  have hds : DS D l tr h' (plus1 S i) = DS D l tr h' S := DS_still u.lt hst
  have hgu : ∀ b, (heapU l tr h' (cond (isEff x.op) (i + 1) c)).get b = (heapU l tr h' c).get b := by
    intro b
    cases he : isEff x.op with
    | false => rfl
    | true =>
      rw [R.u_cut j.cut (hcs.2 he) b]
      simp only [cond_true]
      show (over (l.drop (i + 1)) (tr.drop (i + 1)) (heapAt tr h' (i + 1)).m).get b = (over (l.drop i) (tr.drop i) (heapAt tr h' i).m).get b
      rw [drop_cons u.hx, drop_cons u.hm, hst]
      simp only [over, hmb]
  refine ⟨hcs.1, j.next_closed u, ?_, j.ext.congr rfl hgu, ?_, ?_, ?_⟩
  · rw [hds]; exact j.inv.congr rfl hgu
  · intro k y n bk hy hn hb hs
    rw [hgu]
    refine j.made k y n bk hy hn hb ?_
    simp only [plus1, Bool.or_eq_false_iff] at hs
    exact hs.1
  · exact j.next_env R u (fun _ _ => rfl) (by rw [hds]; exact hv)
  · rw [← j.defers]; cases x.dst <;> rfl

theorem J.next_made (j : J P H0 D N l bs e h tr h' ρ0 w0 a0 S c ρ a w) {c' : Nat} (hg : ∀ (k : Nat) (y : Ins) (n : Mark1) (bk : Blk), l[k]? = some y → tr[k]? = some n → madeBy y n = some bk → S k = false → k ≠ i →
      (heapU l tr h' c).get (heapAt tr h' k).next = some bk → (heapU l tr h' c').get (heapAt tr h' k).next = some bk) :
    ∀ (k : Nat) (y : Ins) (n : Mark1) (bk : Blk), l[k]? = some y → tr[k]? = some n → madeBy y n = some bk → plus1 S i k = false → (heapU l tr h' c').get (heapAt tr h' k).next = some bk := by
  intro k y n bk hy hn hb hs
  simp only [plus1, Bool.or_eq_false_iff, decide_eq_false_iff_not] at hs
  exact hg k y n bk hy hn hb hs.1 hs.2 (j.made k y n bk hy hn hb hs.1)

/-- A number that is not there yet. -/
theorem Rg.not_yet (R : Rg P H0 D N l bs e h tr e' h') {k : Nat} {y : Ins} {n : Mark1} {bk : Blk} (hy : l[k]? = some y) (hn : tr[k]? = some n) (hb : madeBy y n = some bk) (hs : S k = false) :
    ¬ DS D l tr h' S (heapAt tr h' k).next := by
  rintro (hd | ⟨q, hq, hql, h1, h2⟩)
  · have := R.dlt _ hd
    have := R.tra.low k
    omega
  · by_cases hqk : q = k
    · subst hqk; rw [hs] at hq; simp at hq
    · by_cases hlt : q < k
      · have := R.tra.mono (q + 1) k (by omega)
        omega
      · have := R.id_lt hy hn hb (i := q) (by omega)
        omega

/-- Something is made. -/
theorem J.alloc (R : Rg P H0 D N l bs e h tr e' h') (j : J P H0 D N l bs e h tr h' ρ0 w0 a0 S c ρ a w) (u : Up bs l tr S i x m) {bk : Blk} (hb : madeBy x m = some bk) {obj : Obj}
    (hblk : ∀ ρ' D', (∀ b, DS D l tr h' S b → D' b) → (∀ b, DS D l tr h' S b → ρ' b = ρ b) → blkReal P H0 ρ' D' ⟨w.heap.size, 0, 0⟩ bk (w.alloc obj))
    (hv : m.v.inD (DS D l tr h' (plus1 S i))) :
    J P H0 D N l bs e h tr h' ρ0 w0 a0 (plus1 S i) c (upd ρ (heapAt tr h' i).next ⟨w.heap.size, 0, 0⟩) (a.put x.dst (real (upd ρ (heapAt tr h' i).next ⟨w.heap.size, 0, 0⟩) m.v)) (w.alloc obj) := by
  have hcs := R.cut_step j.cut j.closed u.hx u.hsi u.pre
  obtain ⟨⟨o, f, ho, hon, hai, hmv⟩, hst, hmh⟩ := R.made u.hx u.hm hb
  have hne : isEff x.op = false := by rw [ho]; rfl
  rw [hne] at hcs
  have hnot := R.not_yet u.hx u.hm hb u.hsi
  have hget := j.made i x m bk u.hx u.hm hb u.hsi
  generalize hid : (heapAt tr h' i).next = id at *
  have hnx : (heapAt tr h' (i + 1)).next = id + 1 := by rw [hst]; simp [hid]
  have hds : ∀ b, DS D l tr h' (plus1 S i) b ↔ DS D l tr h' S b ∨ b = id := by
    intro b
    rw [DS_plus1 u.lt, hnx, hid]
    constructor
    · rintro (hb | hb)
      · exact .inl hb
      · exact .inr (by omega)
    · rintro (hb | rfl)
      · exact .inl hb
      · exact .inr (by omega)
  have hag : ∀ b, DS D l tr h' S b → upd ρ id ⟨w.heap.size, 0, 0⟩ b = ρ b := fun b hb => upd_ne _ _ (by rintro rfl; exact hnot hb)
  have hold : ∀ r, r < w.heap.size → (w.alloc obj).heap[r]? = w.heap[r]? := by
    intro r hr
    show (w.heap.push obj)[r]? = _
    rw [Array.getElem?_push, if_neg (by omega)]
  have hsz : (w.alloc obj).heap.size = w.heap.size + 1 := by show (w.heap.push obj).size = _; simp
  have hidlt : id < h'.next := by have := R.le_last (i + 1); omega
  have hidlow : h.next ≤ id := by have := R.tra.low i; omega
  refine ⟨hcs.1, j.next_closed u, ?_, ?_, j.next_made (fun _ _ _ _ _ _ _ _ _ hg => hg), j.next_env R u hag hv, ?_⟩
  · refine ⟨?_, j.inv.top, by rw [hsz]; have := j.inv.low; omega, ?_, ?_⟩
    · intro b hb
      rcases (hds b).1 hb with hb | rfl
      · exact j.inv.lt b hb
      · exact hidlt
    · intro b y hb hy
      rcases (hds b).1 hb with hb | rfl
      · have := j.inv.blk b y hb hy
        rw [hag b hb]
        exact blkReal_keep this (fun b hb => (hds b).2 (.inl hb)) hag (hold _ (blkReal_lt this))
      · rw [hget] at hy
        cases hy
        rw [upd_self]
        exact hblk _ _ (fun b hb => (hds b).2 (.inl hb)) hag
    · intro b b' hb hb' hbb hw hg
      rcases (hds b).1 hb with hb | rfl
      · rw [hag b hb]
        rcases (hds b').1 hb' with hb' | rfl
        · rw [hag b' hb']; exact j.inv.apart b b' hb hb' hbb hw hg
        · rw [upd_self]
          have := j.inv.wrlt b hb hw
          simp only
          omega
      · rcases (hds b').1 hb' with hb' | rfl
        · rw [hag b' hb', upd_self]
          have := j.inv.ltw hb' hg
          simp only
          omega
        · exact absurd rfl hbb
  · have x0 := j.ext
    refine ⟨x0.next, ?_, by rw [hsz]; have := x0.size; omega, ?_, x0.aframe, x0.old, ?_, x0.tape, x0.os, x0.output⟩
    · intro b hb
      rw [hag b (.inl hb)]; exact x0.agree b hb
    · intro r hr hf
      rw [hold r (by have := x0.size; omega)]
      exact x0.frame r hr hf
    · intro b hb1 hb2
      by_cases hbi : b = id
      · subst hbi
        rw [upd_self]
        exact .inl x0.size
      · rw [upd_ne _ _ hbi]; exact x0.fresh b hb1 hb2
  · rw [← j.defers]; cases x.dst <;> rfl
end
end Ads
end Go.Proofs.Ytflmbknimebmnaa
