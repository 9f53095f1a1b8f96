/-
  Regions that draw their order: an effect is done, in any order.
-/
import Derived.Test.YtflmbknimebmnaaAdsDrawE
set_option linter.unusedSimpArgs false
set_option linter.unusedVariables false
namespace Go.Proofs.Ytflmbknimebmnaa
namespace Ads

section
variable {P : Program} {H0 : Nat} {D : Dom} {N : Nat} {l : List Ins} {bs : List Nat} {e : Env} {h : Heap} {tr : List Mark1} {e' : Env} {h' : Heap}
  {ρ0 : Rho} {w0 : World} {a0 : Act} {S : Nat → Bool} {c : Nat} {ρ : Rho} {a : Act} {w : World} {i : Nat} {x : Ins} {m : Mark1} {ro : Option Nat} {n : Nat}

theorem put_shift {d : Option Nat} {a a2 : Act} {u v : Value} (hd : dstOk N d = true) (h2 : a2.tmps.size = N) (hp : a2.put d u = a2.put d v) : a.put d u = a.put d v := by
  cases d with
  | none => rfl
  | some d =>
    have hlt : d < N := Nat.le_of_ble_eq_true (show Nat.ble (d + 1) N = true from hd)
    have : (a2.tmps.setIfInBounds d u)[d]? = (a2.tmps.setIfInBounds d v)[d]? := congrArg (fun z : Act => z.tmps[d]?) hp
    simp [h2, hlt] at this
    rw [this]

theorem put_defers {d : Option Nat} {a : Act} {v : Value} : (a.put d v).defers = a.defers := by cases d <;> rfl

/-- The same operation with other slots beside its own. -/
theorem wpIn_shift {o : Oper} {a a2 : Act} {w : World} {next : Act → World → Prop} {Q : Exit → Act → World → Prop} (hd : dstOk N o.dst = true) (h2 : a2.tmps.size = N)
    (hs : Oper.semAt (FW ro).round a.eval o = Oper.semAt (FW ro).round a2.eval o)
    (h : o.wpIn (FW ro) n P a2 w (fun z w' => ∃ v, z = a2.put o.dst v ∧ next (a.put o.dst v) w') (fun _ _ _ => False)) : o.wpIn (FW ro) n P a w next Q := by
  refine ⟨fun _ _ => trivial, ?_⟩
  rw [hs]
  have h := h.2
  generalize (Oper.semAt (FW ro).round a2.eval o).run P w = r at h
  have key : ∀ (v : Value) (w' : World), (∃ v', a2.put o.dst v = a2.put o.dst v' ∧ next (a.put o.dst v') w') → next (a.put o.dst v) w' := by
    rintro v w' ⟨v', h1, h3⟩
    rw [put_shift (a := a) hd h2 h1]
    exact h3
  cases r with
  | ok x w' =>
    cases x <;> simp only [Oper.uponIn] at h ⊢
    case value v => exact key _ _ h
    case skip => exact key _ _ h
    case defer d =>
      exfalso
      obtain ⟨v, h1, _⟩ := h
      have := congrArg Act.defers h1
      rw [put_defers, put_defers] at this
      have := congrArg List.length this
      simp at this
    case enter f args =>
      exact ⟨h.1, CallsIn.mono h.2 (fun e w'' he => by
        cases e with
        | returned v => exact key _ _ he
        | panicked c => exact he.elim
        | outgrown => obtain ⟨_, _, q⟩ := he; exact q.elim)⟩
    case row row args => exact ⟨h.1, RowsIn.mono h.2 (fun _ _ he => key _ _ he)⟩
    case round l f tmps as bd =>
      exact ⟨h.1, RoundIn.mono h.2 (fun e w'' he => by
        cases e with
        | returned v => exact key _ _ he
        | panicked c => exact he.elim
        | outgrown => obtain ⟨_, _, q⟩ := he; exact q.elim)⟩
    all_goals (first | exact h.elim | skip)
  | halt x w' =>
    cases x <;> simp only [Oper.uponIn] at h

/-- The blocks that an effect may know of. -/
def Din (D : Dom) (l : List Ins) (h : Heap) (tr : List Mark1) (h' : Heap) (S : Nat → Bool) (i : Nat) : Dom := fun b =>
  DS D l tr h' S b ∧ grow D h.next (heapAt tr h' i).next b

theorem din_of (R : Rg P H0 D N l bs e h tr e' h') {b : Nat} (hb : DS D l tr h' S b) (hlt : b < (heapAt tr h' i).next) : Din D l h tr h' S i b := by
  refine ⟨hb, ?_⟩
  rcases hb with hb | ⟨q, _, _, h1, _⟩
  · exact .inl hb
  · exact .inr ⟨Nat.le_trans (R.tra.low q) h1, hlt⟩

theorem din_lt (R : Rg P H0 D N l bs e h tr e' h') {b : Nat} (hb : Din D l h tr h' S i b) : b < (heapAt tr h' i).next := by
  rcases hb.2 with hd | hd
  · exact Nat.lt_of_lt_of_le (R.dlt b hd) (R.tra.low i)
  · exact hd.2

/-- The heap ahead of an effect, as the text's order has it. -/
theorem J.before (R : Rg P H0 D N l bs e h tr e' h') (j : J P H0 D N l bs e h tr h' ρ0 w0 a0 S c ρ a w) (u : Up bs l tr S i x m) (he : isEff x.op = true) :
    (∀ b, b < (heapAt tr h' i).next → (heapAt tr h' i).get b = (heapU l tr h' c).get b) ∧ Inv P H0 ρ (Din D l h tr h' S i) (heapAt tr h' i) w := by
  have hcs := R.cut_step j.cut j.closed u.hx u.hsi u.pre
  have hg : ∀ b, b < (heapAt tr h' i).next → (heapAt tr h' i).get b = (heapU l tr h' c).get b := by
    intro b hb
    rw [R.u_cut j.cut (hcs.2 he) b, R.u_low hb]
  refine ⟨hg, fun b hb => din_lt R hb, fun b hb => R.tra.top i b hb, j.inv.low, ?_, ?_⟩
  · intro b y hb hy
    have hlt := din_lt R hb
    have h1 := j.inv.blk b y hb.1 (by rw [← hg b hlt]; exact hy)
    obtain ⟨ρv, wv, av, iv, _⟩ := R.tra.run i
    exact blkReal_inter h1 (iv.blk b y hb.2 hy)
  · intro b b' hb hb' hne hw hx
    exact j.inv.apart b b' hb.1 hb'.1 hne (by rw [← Heap.wr_congr (hg b (din_lt R hb))]; exact hw) (by rw [← hg b' (din_lt R hb')]; exact hx)

theorem J.effect (R : Rg P H0 D N l bs e h tr e' h') (j : J P H0 D N l bs e h tr h' ρ0 w0 a0 S c ρ a w) (u : Up bs l tr S i x m) (he : isEff x.op = true)
    {o : Oper} (hc : compOp P o.op = some (x.op, x.args)) (hdst : x.dst = o.dst) (hmv : m.vals = x.args.map (envAt l tr i e).ev)
    (hop : OpOk P H0 x.op m.vals (heapAt tr h' i) m.v (heapAt tr h' (i + 1))) {next : Act → World → Prop} {Q : Exit → Act → World → Prop}
    (hk : ∀ ρ' w', J P H0 D N l bs e h tr h' ρ0 w0 a0 (plus1 S i) (i + 1) ρ' (a.put x.dst (real ρ' m.v)) w' → next (a.put x.dst (real ρ' m.v)) w') : o.wpIn (FW ro) n P a w next Q := by
  have hcs := R.cut_step j.cut j.closed u.hx u.hsi u.pre
  rw [he] at hcs
  simp only [cond_true] at hcs
  have hcut := hcs.2 trivial
  obtain ⟨hg, hinv⟩ := j.before R u he
  have hmono := R.tra.mono i (i + 1) (by omega)
  -- the slots that the operation reads
  obtain ⟨ρv, wv, av, iv, ev⟩ := R.tra.run i
  have honly : ∀ d, d ∈ randTmps x.args → (envOf S l tr e).get d = (envAt l tr i e).get d := fun d hd => j.slots R u (List.mem_append_right _ hd)
  have he2 : EInv ρ (Din D l h tr h' S i) N (only (envOf S l tr e) (randTmps x.args)) (actOf ρ N (only (envOf S l tr e) (randTmps x.args)) a) := by
    refine actOf_inv (fun d hd => ?_) (fun d => ?_)
    · rw [only_get]
      split
      · rw [← j.env.get d]
        simp [Array.getD_eq_getD_getElem?, j.env.size, Nat.not_lt.2 hd]
      · exact real_undef ρ
    · rw [only_get]
      split
      · rename_i hmem
        refine inD_inter (j.env.dom d) ?_
        rw [honly d hmem]
        exact ev.dom d
      · simp [AV.undef, AV.inD, allD]
  have hvals : x.args.map (only (envOf S l tr e) (randTmps x.args)).ev = m.vals := by
    rw [hmv]
    refine List.map_congr_left fun r hr => ?_
    cases r with
    | c v => rfl
    | t d =>
      show (only _ _).get d = (envAt l tr i e).get d
      rw [only_get, if_pos (mem_randTmps hr)]
      exact honly d (mem_randTmps hr)
  obtain ⟨hsel, hoperands⟩ := comp_operands hc he
  have hex : execOp a.eval o = execOp (actOf ρ N (only (envOf S l tr e) (randTmps x.args)) a).eval o := by
    refine execOp_congr o hsel ?_
    intro y hy
    obtain ⟨r, hr, hry⟩ := hoperands y hy
    rw [(rand_real j.env hry).1, (rand_real he2 hry).1]
    cases r with
    | c v => rfl
    | t d =>
      show real ρ ((envOf S l tr e).get d) = real ρ ((only _ _).get d)
      rw [only_get, if_pos (mem_randTmps hr)]
  refine wpIn_shift (N := N) (by rw [← hdst]; exact opsOk_get R.ok u.hx) he2.size (by rw [semAt_of hc, semAt_of hc]; exact hex) ?_
  refine hop.sem o x.args hc ρ _ w _ N _ ro n hinv he2 hvals _ _ ?_
  intro ρ1 w1 i1 x1 hv1
  refine ⟨real ρ1 m.v, rfl, ?_⟩
  -- the numbers of new blocks are those of the text's order
  let ρ2 : Rho := fun b => if (heapAt tr h' i).next ≤ b ∧ b < (heapAt tr h' (i + 1)).next then ρ1 b else ρ b
  have h2new : ∀ b, (heapAt tr h' i).next ≤ b → b < (heapAt tr h' (i + 1)).next → ρ2 b = ρ1 b := fun b h1 h2 => if_pos ⟨h1, h2⟩
  have h2old : ∀ b, ¬ ((heapAt tr h' i).next ≤ b ∧ b < (heapAt tr h' (i + 1)).next) → ρ2 b = ρ b := fun b h1 => if_neg h1
  have hDSnot : ∀ b, DS D l tr h' S b → ¬ ((heapAt tr h' i).next ≤ b ∧ b < (heapAt tr h' (i + 1)).next) := by
    rintro b (hb | ⟨q, hq, hql, h1, h2⟩) ⟨h3, h4⟩
    · have := R.dlt b hb
      have := R.tra.low i
      omega
    · by_cases hqi : q = i
      · subst hqi; rw [u.hsi] at hq; simp at hq
      · by_cases hlt : q < i
        · have := R.tra.mono (q + 1) i (by omega); omega
        · have := R.tra.mono (i + 1) q (by omega); omega
  have hag : ∀ b, DS D l tr h' S b → ρ2 b = ρ b := fun b hb => h2old b (hDSnot b hb)
  have hag1 : ∀ b, grow (Din D l h tr h' S i) (heapAt tr h' i).next (heapAt tr h' (i + 1)).next b → ρ2 b = ρ1 b := by
    rintro b (hb | hb)
    · rw [hag b hb.1, x1.agree b hb]
    · exact h2new b hb.1 hb.2
  have hval : real ρ2 m.v = real ρ1 m.v := real_agree hag1 _ hv1
  have hsub : ∀ b, grow (Din D l h tr h' S i) (heapAt tr h' i).next (heapAt tr h' (i + 1)).next b → DS D l tr h' (plus1 S i) b := by
    rintro b (hb | hb)
    · exact (DS_plus1 u.lt b).2 (.inl hb.1)
    · exact (DS_plus1 u.lt b).2 (.inr hb)
  have hsplit : ∀ b, DS D l tr h' (plus1 S i) b → (grow (Din D l h tr h' S i) (heapAt tr h' i).next (heapAt tr h' (i + 1)).next b ∧ b < (heapAt tr h' (i + 1)).next) ∨ (DS D l tr h' S b ∧ (heapAt tr h' (i + 1)).next ≤ b) := by
    intro b hb
    rcases (DS_plus1 u.lt b).1 hb with hb | hb
    · have := hDSnot b hb
      by_cases hlt : b < (heapAt tr h' i).next
      · exact .inl ⟨.inl (din_of R hb hlt), by omega⟩
      · exact .inr ⟨hb, by omega⟩
    · exact .inl ⟨.inr hb, hb.2⟩
  have hgu : ∀ b, b < (heapAt tr h' (i + 1)).next → (heapU l tr h' (i + 1)).get b = (heapAt tr h' (i + 1)).get b := fun b hb => R.u_low hb
  have hgo : ∀ b, (heapAt tr h' (i + 1)).next ≤ b → (heapU l tr h' (i + 1)).get b = (heapU l tr h' c).get b := by
    intro b hb
    rw [R.u_cut j.cut hcut b, R.u_eff u.hx he hb]
  have hwu : ∀ b, b < (heapAt tr h' (i + 1)).next → (heapU l tr h' (i + 1)).wr b = (heapAt tr h' (i + 1)).wr b := fun b hb => Heap.wr_congr (hgu b hb)
  -- a block made early keeps its place
  have hkeep : ∀ b, DS D l tr h' S b → (heapAt tr h' (i + 1)).next ≤ b → (heapU l tr h' c).get b ≠ none → ∀ b0, Din D l h tr h' S i b0 → (heapAt tr h' i).wr b0 = true → (ρ b0).blk ≠ (ρ b).blk := by
    intro b hb hlt hnn b0 hb0 hw0
    have := din_lt R hb0
    exact j.inv.apart b0 b hb0.1 hb (by omega) (by rw [← Heap.wr_congr (hg b0 this)]; exact hw0) hnn
  have hcl := j.next_closed u
  have hjj : J P H0 D N l bs e h tr h' ρ0 w0 a0 (plus1 S i) (i + 1) ρ2 (a.put x.dst (real ρ2 m.v)) w1 := by
    refine ⟨hcs.1, hcl, ?_, ?_, j.next_made ?_, j.next_env R u hag (inD_mono hsub _ hv1), by rw [← j.defers]; exact put_defers⟩
    · refine ⟨?_, fun b hb => R.u_top hb, i1.low, ?_, ?_⟩
      · intro b hb
        rcases hsplit b hb with hb | hb
        · exact Nat.lt_of_lt_of_le hb.2 (R.le_last _)
        · exact j.inv.lt b hb.1
      · intro b y hb hy
        rcases hsplit b hb with hb | hb
        · rw [hgu b hb.2] at hy
          rw [hag1 b hb.1]
          exact blkReal_keep (i1.blk b y hb.1 hy) hsub hag1 rfl
        · rw [hgo b hb.2] at hy
          rw [hag b hb.1]
          have hbk := j.inv.blk b y hb.1 hy
          refine blkReal_keep hbk (fun b hb => (DS_plus1 u.lt b).2 (.inl hb)) hag ?_
          exact x1.frame _ (blkReal_lt hbk) (hkeep b hb.1 hb.2 (by rw [hy]; simp))
      · intro b b' hb hb' hne hw hx
        rcases hsplit b hb with hb | hb <;> rcases hsplit b' hb' with hb' | hb'
        · rw [hag1 b hb.1, hag1 b' hb'.1]
          exact i1.apart b b' hb.1 hb'.1 hne (by rw [← hwu b hb.2]; exact hw) (by rw [← hgu b' hb'.2]; exact hx)
        · rw [hag1 b hb.1, hag b' hb'.1]
          rw [hgo b' hb'.2] at hx
          rcases hb.1 with hd | hd
          · rw [x1.agree b hd]
            have hwb : (heapAt tr h' (i + 1)).wr b = true := by rw [← hwu b hb.2]; exact hw
            have := (x1.old b (din_lt R hd) (Heap.wr_some hwb)).2
            exact hkeep b' hb'.1 hb'.2 hx b hd (by rw [← this]; exact hwb)
          · rcases x1.fresh b hd.1 hd.2 with hf | ⟨b0, k1, k2, k3⟩
            · have := j.inv.ltw hb'.1 hx
              omega
            · rw [← k3]
              exact hkeep b' hb'.1 hb'.2 hx b0 k1 k2
        · rw [hag b hb.1, hag1 b' hb'.1]
          rw [Heap.wr_congr (hgo b hb.2)] at hw
          rw [hgu b' hb'.2] at hx
          rcases hb'.1 with hd | hd
          · rw [x1.agree b' hd]
            have hlt := din_lt R hd
            have := (x1.old b' hlt hx).1
            rw [hg b' hlt] at this
            exact j.inv.apart b b' hb.1 hd.1 hne hw this
          · rcases x1.fresh b' hd.1 hd.2 with hf | ⟨b0, k1, k2, k3⟩
            · have := j.inv.wrlt b hb.1 hw
              omega
            · rw [← k3]
              exact (hkeep b hb.1 hb.2 (Heap.wr_some hw) b0 k1 k2).symm
        · rw [hag b hb.1, hag b' hb'.1]
          rw [Heap.wr_congr (hgo b hb.2)] at hw
          rw [hgo b' hb'.2] at hx
          exact j.inv.apart b b' hb.1 hb'.1 hne hw hx
    · have x0 := j.ext
      have hlow := R.tra.low i
      have hDSlow : ∀ b, DS D l tr h' S b → b < h.next → D b := by
        rintro b (hb | ⟨q, _, _, h1, _⟩) hlt
        · exact hb
        · have := R.tra.low q; omega
      -- a writable block's place: from the start, or fresh
      have place : ∀ b, DS D l tr h' S b → (heapU l tr h' c).wr b = true → w0.heap.size ≤ (ρ b).blk ∨ ∃ b0, D b0 ∧ h.wr b0 = true ∧ (ρ0 b0).blk = (ρ b).blk := by
        intro b hb hw
        by_cases hlt : b < h.next
        · have hd := hDSlow b hb hlt
          have := (x0.old b hlt (Heap.wr_some hw)).2
          exact .inr ⟨b, hd, by rw [← this]; exact hw, by rw [x0.agree b hd]⟩
        · exact x0.fresh b (by omega) (j.inv.lt b hb)
      have place' : ∀ b, Din D l h tr h' S i b → (heapAt tr h' i).wr b = true → w0.heap.size ≤ (ρ b).blk ∨ ∃ b0, D b0 ∧ h.wr b0 = true ∧ (ρ0 b0).blk = (ρ b).blk :=
        fun b hb hw => place b hb.1 (by rw [← Heap.wr_congr (hg b (din_lt R hb))]; exact hw)
      refine ⟨x0.next, ?_, Nat.le_trans x0.size x1.size, ?_, ?_, ?_, ?_, x1.tape.trans x0.tape, x1.os.trans x0.os, x1.output.trans x0.output⟩
      · intro b hb
        rw [hag b (.inl hb)]; exact x0.agree b hb
      · intro r hr hf
        rw [x1.frame r (Nat.lt_of_lt_of_le hr x0.size), x0.frame r hr hf]
        intro b hb hw
        rcases place' b hb hw with hp | ⟨b0, k1, k2, k3⟩
        · omega
        · rw [← k3]; exact hf b0 k1 k2
      · intro b hb hd
        have hlt : b < (heapAt tr h' i).next := by omega
        rw [hgu b (by omega), x1.aframe b hlt (fun hin => hd (hDSlow b hin.1 hb)), hg b hlt]
        exact x0.aframe b hb hd
      · intro b hb hn
        have hlt : b < (heapAt tr h' i).next := by omega
        rw [hgu b (by omega)] at hn
        have k1 := x1.old b hlt hn
        have k2 := x0.old b hb (by rw [← hg b hlt]; exact k1.1)
        refine ⟨k2.1, ?_⟩
        rw [hwu b (by omega), k1.2, Heap.wr_congr (hg b hlt), k2.2]
      · intro b hb1 hb2
        by_cases hnew : (heapAt tr h' i).next ≤ b ∧ b < (heapAt tr h' (i + 1)).next
        · rw [h2new b hnew.1 hnew.2]
          rcases x1.fresh b hnew.1 hnew.2 with hf | ⟨b0, k1, k2, k3⟩
          · exact .inl (Nat.le_trans x0.size hf)
          · rw [← k3]
            exact place' b0 k1 k2
        · rw [h2old b hnew]
          exact x0.fresh b hb1 hb2
    · intro k y q bk hy hq hb hs hki hgc
      by_cases hlt : (heapAt tr h' k).next < (heapAt tr h' i).next
      · rw [hgu _ (by omega), x1.aframe _ hlt (fun hin => R.not_yet hy hq hb hs hin.1), hg _ hlt]
        exact hgc
      · have hk1 := R.id_lt hy hq hb (i := k + 1) (by omega)
        have : (heapAt tr h' (i + 1)).next ≤ (heapAt tr h' k).next := by
          rcases Nat.lt_or_ge k i with hlt' | hge
          · have := R.id_lt hy hq hb hlt'; omega
          · exact R.tra.mono (i + 1) k (by omega)
        rw [hgo _ this]
        exact hgc
  have := hk ρ2 w1 hjj
  rw [hval] at this
  rw [← hdst]
  exact this
end
end Ads
end Go.Proofs.Ytflmbknimebmnaa
