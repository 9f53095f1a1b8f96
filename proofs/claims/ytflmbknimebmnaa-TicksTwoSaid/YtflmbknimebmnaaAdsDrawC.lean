/-
  Regions that draw their order: the heap that all orders work on; what holds when some operations are done.
-/
import Derived.Test.YtflmbknimebmnaaAdsDrawB
set_option linter.unusedSimpArgs false
set_option linter.unusedVariables false
namespace Go.Proofs.Ytflmbknimebmnaa
namespace Ads

/-- Operation i is surely ahead of operation j. -/
def Bef (bs : List Nat) (j i : Nat) : Prop := (bs.getD j 0).testBit i = true

/-- A region and its trace. -/
structure Rg (P : Program) (H0 : Nat) (D : Dom) (N : Nat) (l : List Ins) (bs : List Nat) (e : Env) (h : Heap) (tr : List Mark1) (e' : Env) (h' : Heap) : Prop where
  ot : OT P H0 l e h tr e' h'
  tra : Tra P H0 D N l e h tr h'
  dlt : ∀ b, D b → b < h.next
  pairs : ∀ (i j : Nat) (x y : Ins), i < j → l[i]? = some x → l[j]? = some y → Bef bs j i ∨ (¬(isEff x.op = true ∧ isEff y.op = true) ∧ apartI x y = true)
  ok : opsOk N l = true

section
variable {P : Program} {H0 : Nat} {D : Dom} {N : Nat} {l : List Ins} {bs : List Nat} {e : Env} {h : Heap} {tr : List Mark1} {e' : Env} {h' : Heap}

theorem Rg.le_last (R : Rg P H0 D N l bs e h tr e' h') (c : Nat) : (heapAt tr h' c).next ≤ h'.next := by
  by_cases hc : c ≤ l.length
  · have := R.tra.mono c l.length hc
    rwa [R.ot.last (Nat.le_refl _)] at this
  · rw [R.ot.last (by omega)]
    exact Nat.le_refl _

theorem Rg.made (R : Rg P H0 D N l bs e h tr e' h') {j : Nat} {x : Ins} {m : Mark1} {b : Blk} (hx : l[j]? = some x) (hm : tr[j]? = some m) (hb : madeBy x m = some b) :
    (∃ o f, x.op = .a o ∧ m.on = true ∧ aI o m.vals = some (b, f) ∧ m.v = f (heapAt tr h' j).next) ∧ heapAt tr h' (j + 1) = (heapAt tr h' j).new b ∧ m.h = heapAt tr h' j := by
  obtain ⟨m', g1, g2, g3, g4⟩ := R.ot.at hx
  rw [hm] at g1
  cases g1
  unfold madeBy at hb
  split at hb
  · rename_i o ho hon
    simp only [Option.map_eq_some_iff] at hb
    obtain ⟨⟨b', f⟩, hb, rfl⟩ := hb
    rcases g4 with g4 | ⟨k1, k2, k3⟩
    · rw [g4.1] at hon; simp at hon
    · rw [ho] at k3
      obtain ⟨x', f', q1, q2, q3⟩ := k3
      rw [hb] at q1
      cases q1
      exact ⟨⟨o, f, ho, hon, hb, q2⟩, q3, g2⟩
  · simp at hb

theorem Rg.still (R : Rg P H0 D N l bs e h tr e' h') {j : Nat} {x : Ins} {m : Mark1} (hx : l[j]? = some x) (hm : tr[j]? = some m) (hb : madeBy x m = none) (he : isEff x.op = false) :
    heapAt tr h' (j + 1) = heapAt tr h' j := by
  obtain ⟨m', g1, g2, g3, g4⟩ := R.ot.at hx
  rw [hm] at g1
  cases g1
  rcases g4 with g4 | ⟨k1, k2, k3⟩
  · exact g4.2.2.2
  · cases ho : x.op with
    | p o => rw [ho] at k3; exact k3.2
    | r o => rw [ho] at k3; exact k3.2
    | a o =>
      rw [ho] at k3
      obtain ⟨x', f', q1, q2, q3⟩ := k3
      unfold madeBy at hb
      rw [ho, k1] at hb
      simp [q1] at hb
    | bad => rw [ho] at k3; exact k3.elim
    | e o => rw [ho] at he; simp [isEff] at he
    | call => rw [ho] at he; simp [isEff] at he
    | invoke s => rw [ho] at he; simp [isEff] at he
    | panic => rw [ho] at he; simp [isEff] at he

theorem Rg.tr_some (R : Rg P H0 D N l bs e h tr e' h') {j : Nat} {x : Ins} (hx : l[j]? = some x) : ∃ m, tr[j]? = some m := by
  obtain ⟨m, g, _⟩ := R.ot.at hx
  exact ⟨m, g⟩

/-- Later numbers. -/
theorem Rg.id_lt (R : Rg P H0 D N l bs e h tr e' h') {j i : Nat} {x : Ins} {m : Mark1} {b : Blk} (hx : l[j]? = some x) (hm : tr[j]? = some m) (hb : madeBy x m = some b) (hji : j < i) :
    (heapAt tr h' j).next < (heapAt tr h' i).next := by
  have h1 := R.made hx hm hb
  have h2 := R.tra.mono (j + 1) i (by omega)
  rw [h1.2.1] at h2
  simp at h2
  omega

theorem Rg.u_low (R : Rg P H0 D N l bs e h tr e' h') {c b : Nat} (hb : b < (heapAt tr h' c).next) : (heapU l tr h' c).get b = (heapAt tr h' c).get b := by
  refine over_ne _ _ _ b ?_
  intro j x m hx hm hne
  rw [List.getElem?_drop] at hx hm
  obtain ⟨bk, hbk⟩ := Option.ne_none_iff_exists'.1 hne
  rw [(R.made hx hm hbk).2.2]
  have := R.tra.mono c (c + j) (by omega)
  omega

theorem over_get : ∀ (l : List Ins) (tr : List Mark1) (t : Tr Blk) (j : Nat) (x : Ins) (m : Mark1) (b : Blk), l[j]? = some x → tr[j]? = some m → madeBy x m = some b →
    (∀ (i : Nat) (y : Ins) (n : Mark1), j < i → l[i]? = some y → tr[i]? = some n → madeBy y n ≠ none → n.h.next ≠ m.h.next) → (over l tr t).get m.h.next = some b
  | [], tr, t, j, x, m, b, hx, hm, hb, hi => by simp at hx
  | y :: l, [], t, j, x, m, b, hx, hm, hb, hi => by simp at hm
  | y :: l, n :: tr, t, 0, x, m, b, hx, hm, hb, hi => by
    simp at hx hm
    subst hx
    subst hm
    simp only [over, hb]
    rw [over_ne, Tr.get_set, if_pos rfl]
    intro i z k hz hk hne
    exact hi (i + 1) z k (by omega) (by simpa using hz) (by simpa using hk) hne
  | y :: l, n :: tr, t, j + 1, x, m, b, hx, hm, hb, hi => by
    have := fun t => over_get l tr t j x m b (by simpa using hx) (by simpa using hm) hb (fun i z k hlt hz hk => hi (i + 1) z k (by omega) (by simpa using hz) (by simpa using hk))
    simp only [over]
    split
    · exact this _
    · exact this _

theorem Rg.u_made (R : Rg P H0 D N l bs e h tr e' h') {c j : Nat} {x : Ins} {m : Mark1} {b : Blk} (hx : l[j]? = some x) (hm : tr[j]? = some m) (hb : madeBy x m = some b) (hc : c ≤ j) :
    (heapU l tr h' c).get (heapAt tr h' j).next = some b := by
  have hmh := (R.made hx hm hb).2.2
  have := over_get (l.drop c) (tr.drop c) (nextHeap (tr.drop c) h').m (j - c) x m b (by rw [List.getElem?_drop]; rw [show c + (j - c) = j by omega]; exact hx)
    (by rw [List.getElem?_drop]; rw [show c + (j - c) = j by omega]; exact hm) hb (fun i y n hlt hy hn hne => by
      rw [List.getElem?_drop] at hy hn
      obtain ⟨bk, hbk⟩ := Option.ne_none_iff_exists'.1 hne
      rw [(R.made hy hn hbk).2.2, hmh]
      have := R.id_lt hx hm hb (i := c + i) (by omega)
      omega)
  rw [hmh] at this
  exact this

theorem Rg.u_top (R : Rg P H0 D N l bs e h tr e' h') {c b : Nat} (hb : h'.next ≤ b) : (heapU l tr h' c).get b = none := by
  have : (heapU l tr h' c).get b = (heapAt tr h' c).get b := by
    refine over_ne _ _ _ b ?_
    intro j x m hx hm hne
    rw [List.getElem?_drop] at hx hm
    obtain ⟨bk, hbk⟩ := Option.ne_none_iff_exists'.1 hne
    rw [(R.made hx hm hbk).2.2]
    have h1 := R.id_lt hx hm hbk (i := c + j + 1) (by omega)
    have h2 := R.le_last (c + j + 1)
    omega
  rw [this]
  exact R.tra.top c b (Nat.le_trans (R.le_last c) hb)

theorem drop_cons {α : Type} {l : List α} {i : Nat} {x : α} (h : l[i]? = some x) : l.drop i = x :: l.drop (i + 1) := by
  obtain ⟨hlt, rfl⟩ := List.getElem?_eq_some_iff.1 h
  exact List.drop_eq_getElem_cons hlt

/-- Only effects change the heap that all orders work on. -/
theorem Rg.u_same (R : Rg P H0 D N l bs e h tr e' h') {i : Nat} {x : Ins} (hx : l[i]? = some x) (he : isEff x.op = false) (b : Nat) :
    (heapU l tr h' i).get b = (heapU l tr h' (i + 1)).get b := by
  obtain ⟨m, hm⟩ := R.tr_some hx
  show (over (l.drop i) (tr.drop i) (heapAt tr h' i).m).get b = (over (l.drop (i + 1)) (tr.drop (i + 1)) (heapAt tr h' (i + 1)).m).get b
  rw [drop_cons hx, drop_cons hm]
  simp only [over]
  cases hb : madeBy x m with
  | none => simp only []; rw [R.still hx hm hb he]
  | some bk =>
    simp only []
    have := R.made hx hm hb
    rw [this.2.1, this.2.2]
    rfl

theorem Rg.u_between (R : Rg P H0 D N l bs e h tr e' h') {c : Nat} (b : Nat) : ∀ (k : Nat), (∀ j x, c ≤ j → j < c + k → l[j]? = some x → isEff x.op = false) → (heapU l tr h' c).get b = (heapU l tr h' (c + k)).get b
  | 0, _ => rfl
  | k + 1, hn => by
    rw [R.u_between b k (fun j x h1 h2 => hn j x h1 (by omega))]
    cases hx : l[c + k]? with
    | some x => exact R.u_same hx (hn (c + k) x (by omega) (by omega) hx) b
    | none =>
      have hlen : l.length ≤ c + k := List.getElem?_eq_none_iff.1 hx
      show (over (l.drop (c + k)) (tr.drop (c + k)) (heapAt tr h' (c + k)).m).get b = (over (l.drop (c + k + 1)) (tr.drop (c + k + 1)) (heapAt tr h' (c + k + 1)).m).get b
      have e1 : l.drop (c + k) = [] := List.drop_eq_nil_of_le hlen
      have e2 : l.drop (c + k + 1) = [] := List.drop_eq_nil_of_le (by omega)
      rw [R.ot.last hlen, R.ot.last (i := c + k + 1) (by omega), e1, e2]
      simp [over]

/-- Behind an effect. -/
theorem Rg.u_eff (R : Rg P H0 D N l bs e h tr e' h') {i : Nat} {x : Ins} (hx : l[i]? = some x) (he : isEff x.op = true) {b : Nat} (hb : (heapAt tr h' (i + 1)).next ≤ b) :
    (heapU l tr h' i).get b = (heapU l tr h' (i + 1)).get b := by
  obtain ⟨m, hm⟩ := R.tr_some hx
  show (over (l.drop i) (tr.drop i) (heapAt tr h' i).m).get b = (over (l.drop (i + 1)) (tr.drop (i + 1)) (heapAt tr h' (i + 1)).m).get b
  rw [drop_cons hx, drop_cons hm]
  have hn : madeBy x m = none := by
    unfold madeBy
    split
    · rename_i o ho hon; rw [ho] at he; simp [isEff] at he
    · rfl
  simp only [over, hn]
  refine over_congr _ _ _ _ b ?_
  have h1 := R.tra.top (i + 1) b hb
  have h2 := R.tra.top i b (Nat.le_trans (R.tra.mono i (i + 1) (by omega)) hb)
  unfold Heap.get at h1 h2
  rw [h1, h2]

/-- The effects done are those ahead of place c. -/
def Cut (l : List Ins) (S : Nat → Bool) (c : Nat) : Prop := ∀ j x, l[j]? = some x → isEff x.op = true → (S j = true ↔ j < c)

theorem Rg.u_cut (R : Rg P H0 D N l bs e h tr e' h') {S : Nat → Bool} {c c' : Nat} (h1 : Cut l S c) (h2 : Cut l S c') (b : Nat) : (heapU l tr h' c).get b = (heapU l tr h' c').get b := by
  have key : ∀ c c', c ≤ c' → Cut l S c → Cut l S c' → (heapU l tr h' c).get b = (heapU l tr h' c').get b := by
    intro c c' hle g1 g2
    have := R.u_between (c := c) b (c' - c) (fun j x hj1 hj2 hx => by
      cases hx' : isEff x.op with
      | false => rfl
      | true =>
        have a1 := g1 j x hx hx'
        have a2 := g2 j x hx hx'
        have := a1.1 (a2.2 (by omega))
        omega)
    rwa [show c + (c' - c) = c' by omega] at this
  by_cases hle : c ≤ c'
  · exact key c c' hle h1 h2
  · exact (key c' c (by omega) h2 h1).symm

/-- The blocks there are when some operations are done. -/
def DS (D : Dom) (l : List Ins) (tr : List Mark1) (h' : Heap) (S : Nat → Bool) : Dom := fun b =>
  D b ∨ ∃ j, S j = true ∧ j < l.length ∧ (heapAt tr h' j).next ≤ b ∧ b < (heapAt tr h' (j + 1)).next

/-- What holds when some operations are done. -/
structure J (P : Program) (H0 : Nat) (D : Dom) (N : Nat) (l : List Ins) (bs : List Nat) (e : Env) (h : Heap) (tr : List Mark1) (h' : Heap) (ρ0 : Rho) (w0 : World) (a0 : Act)
    (S : Nat → Bool) (c : Nat) (ρ : Rho) (a : Act) (w : World) : Prop where
  cut : Cut l S c
  closed : ∀ j, S j = true → ∀ i, Bef bs j i → S i = true
  inv : Inv P H0 ρ (DS D l tr h' S) (heapU l tr h' c) w
  ext : Ext ρ0 D h w0 ρ (heapU l tr h' c) w
  made : ∀ (j : Nat) (x : Ins) (m : Mark1) (bk : Blk), l[j]? = some x → tr[j]? = some m → madeBy x m = some bk → S j = false → (heapU l tr h' c).get (heapAt tr h' j).next = some bk
  env : EInv ρ (DS D l tr h' S) N (envOf S l tr e) a
  defers : a.defers = a0.defers

theorem Inv.congr {ρ : Rho} {h2 : Heap} {w : World} (i : Inv P H0 ρ D h w) (hn : h2.next = h.next) (hg : ∀ b, h2.get b = h.get b) : Inv P H0 ρ D h2 w := by
  have hwr : ∀ b, h2.wr b = h.wr b := fun b => by simp only [Heap.wr, hg]
  refine ⟨fun b hb => by rw [hn]; exact i.lt b hb, fun b hb => by rw [hg]; exact i.top b (by omega), i.low, fun b x hb hx => i.blk b x hb (by rw [← hg]; exact hx), fun b b' hb hb' hne hw hx => ?_⟩
  rw [hwr] at hw
  rw [hg] at hx
  exact i.apart b b' hb hb' hne hw hx

theorem Ext.congr {ρ ρ' : Rho} {h2 h3 : Heap} {w w' : World} (x : Ext ρ D h w ρ' h2 w') (hn : h3.next = h2.next) (hg : ∀ b, h3.get b = h2.get b) : Ext ρ D h w ρ' h3 w' := by
  have hwr : ∀ b, h3.wr b = h2.wr b := fun b => by simp only [Heap.wr, hg]
  exact ⟨by rw [hn]; exact x.next, x.agree, x.size, x.frame, fun b h1 h2 => by rw [hg]; exact x.aframe b h1 h2, fun b h1 h2 => by rw [hg] at h2; rw [hwr]; exact x.old b h1 h2,
    fun b h1 h2 => x.fresh b h1 (by omega), x.tape, x.os, x.output⟩

theorem EInv.congr {ρ : Rho} {e1 e2 : Env} {a : Act} (he : EInv ρ D N e1 a) (hg : ∀ d, e2.get d = e1.get d) : EInv ρ D N e2 a :=
  ⟨he.size, fun i => by rw [hg]; exact he.get i, fun i => by rw [hg]; exact he.dom i⟩

theorem Rg.cut_step (R : Rg P H0 D N l bs e h tr e' h') {S : Nat → Bool} {c i : Nat} {x : Ins} (hcut : Cut l S c) (hcl : ∀ j, S j = true → ∀ i, Bef bs j i → S i = true) (hx : l[i]? = some x) (hsi : S i = false)
    (hpre : ∀ j, Bef bs i j → S j = true) : Cut l (fun j => S j || decide (j = i)) (cond (isEff x.op) (i + 1) c) ∧ (isEff x.op = true → Cut l S i) := by
  have hi : isEff x.op = true → Cut l S i := by
    intro he j y hy hey
    constructor
    · intro hs
      by_cases hji : j < i
      · exact hji
      · have hne : j ≠ i := by rintro rfl; rw [hs] at hsi; simp at hsi
        rcases R.pairs i j x y (by omega) hx hy with hb | hb
        · have := hcl j hs i hb; rw [this] at hsi; simp at hsi
        · exact absurd ⟨he, hey⟩ hb.1
    · intro hji
      rcases R.pairs j i y x hji hy hx with hb | hb
      · exact hpre j hb
      · exact absurd ⟨hey, he⟩ hb.1
  refine ⟨?_, hi⟩
  cases he : isEff x.op with
  | true =>
    intro j y hy hey
    have := hi he j y hy hey
    by_cases hji : j = i
    · subst hji; simp
    · simp [hji, this]; omega
  | false =>
    intro j y hy hey
    have hne : j ≠ i := by rintro rfl; rw [hx] at hy; cases hy; rw [he] at hey; simp at hey
    simp [hne, hcut j y hy hey]

/-- Slots that an operation reads hold what they hold in the text's order. -/
theorem Rg.slot (R : Rg P H0 D N l bs e h tr e' h') {S : Nat → Bool} {i : Nat} {x : Ins} (hcl : ∀ j, S j = true → ∀ i, Bef bs j i → S i = true) (hx : l[i]? = some x) (hsi : S i = false)
    (hpre : ∀ j, Bef bs i j → S j = true) {d : Nat} (hd : d ∈ x.reads) : (envOf S l tr e).get d = (envAt l tr i e).get d := by
  refine envOf_at l tr S i d e e rfl R.ot.length ?_
  intro j y hy hyd
  have hnm : x.names.contains d = true := by simp [Ins.names, hd]
  by_cases hji : j < i
  · rw [decide_eq_true hji]
    rcases R.pairs j i y x hji hy hx with hb | hb
    · exact hpre j hb
    · have := hb.2
      unfold apartI at this
      rw [hyd] at this
      simp only [hnm] at this
      simp at this
  · rw [decide_eq_false hji]
    by_cases he : j = i
    · subst he; exact hsi
    · rcases R.pairs i j x y (by omega) hx hy with hb | hb
      · cases hs : S j with
        | false => rfl
        | true => have := hcl j hs i hb; rw [this] at hsi; simp at hsi
      · have := hb.2
        unfold apartI at this
        rw [hyd] at this
        simp only [hnm] at this
        simp at this

theorem Rg.late (R : Rg P H0 D N l bs e h tr e' h') {S : Nat → Bool} {i : Nat} {x : Ins} (hcl : ∀ j, S j = true → ∀ i, Bef bs j i → S i = true) (hx : l[i]? = some x) (hsi : S i = false)
    {d : Nat} {j : Nat} {y : Ins} (hij : i < j) (hy : l[j]? = some y) (hxd : x.dst = some d) (hyd : y.dst = some d) : S j = false := by
  rcases R.pairs i j x y hij hx hy with hb | hb
  · cases hs : S j with
    | false => rfl
    | true => have := hcl j hs i hb; rw [this] at hsi; simp at hsi
  · have := hb.2
    unfold apartI at this
    rw [hyd, hxd] at this
    simp [Ins.names, hyd] at this

end
end Ads
end Go.Proofs.Ytflmbknimebmnaa
