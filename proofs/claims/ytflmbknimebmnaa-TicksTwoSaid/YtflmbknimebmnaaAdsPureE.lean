/-
  Slices, interfaces, functions' values, len, max, min; all operations without memory together.
-/
import Derived.Test.YtflmbknimebmnaaAdsPureD
set_option linter.unusedSimpArgs false
set_option linter.unusedVariables false
namespace Go.Proofs.Ytflmbknimebmnaa
namespace Ads
section
variable {P : Program} {ρ : Rho} {D : Dom} {w : World} {n : Nat} {env : Env} {a : Act}

theorem bound_real {v : AV} {i y : Nat} {code : BoundsCode} (h : asNat v = some i) (hy : i ≤ y) : (Instr.sliceBound (real ρ v) y code).run P w = .ok i w := by
  obtain ⟨k, rfl⟩ := asNat_int h
  rw [real, run_sliceBound w k (i : Int) y code (by omega) (by omega)]
  simp

/-- The bounds of a slice expression. -/
theorem bounds_real {isSlice : Bool} {len cap extra l h m : Nat} {lo hi mx : Option AV} (hmx : mx.isSome = true → hi.isSome = true)
    (hb : bounds len cap lo.isSome hi.isSome mx.isSome (lo.toList ++ (hi.toList ++ mx.toList)) = some (l, h, m)) :
    (Instr.sliceBounds isSlice len (cap + extra) (lo.map (real ρ)) (hi.map (real ρ)) (mx.map (real ρ))).run P w = .ok (l, h, cond mx.isSome m (cap + extra)) w ∧
    l ≤ h ∧ h ≤ m ∧ m ≤ cap ∧ (mx.isSome = false → m = cap) := by
  unfold bounds at hb
  have fin : ∀ {l' h' m' : Nat}, (cond (Nat.ble l' h' && Nat.ble h' m' && Nat.ble m' cap) (some (l', h', m')) none : Option (Nat × Nat × Nat)) = some (l, h, m) →
      l' = l ∧ h' = h ∧ m' = m ∧ l ≤ h ∧ h ≤ m ∧ m ≤ cap := by
    intro l' h' m' e
    cases hc : (Nat.ble l' h' && Nat.ble h' m' && Nat.ble m' cap) with
    | false => simp [hc] at e
    | true =>
      simp only [hc, cond_true, Option.some.injEq, Prod.mk.injEq] at e
      simp only [Bool.and_eq_true] at hc
      have h1 := Nat.le_of_ble_eq_true hc.1.1
      have h2 := Nat.le_of_ble_eq_true hc.1.2
      have h3 := Nat.le_of_ble_eq_true hc.2
      obtain ⟨rfl, rfl, rfl⟩ := e
      exact ⟨rfl, rfl, rfl, h1, h2, h3⟩
  cases lo with
  | none =>
    cases hi with
    | none =>
      cases mx with
      | none =>
        simp at hb
        obtain ⟨rfl, rfl, rfl, h1, h2, h3⟩ := fin hb
        refine ⟨?_, h1, h2, h3, fun _ => rfl⟩
        simp [Instr.sliceBounds, Result.andThen]
      | some mv => simp at hmx
    | some hv =>
      cases mx with
      | none =>
        simp at hb
        cases hh : asNat hv with
        | none => simp [hh] at hb
        | some h' =>
          simp [hh] at hb
          obtain ⟨rfl, rfl, rfl, h1, h2, h3⟩ := fin hb
          refine ⟨?_, h1, h2, h3, fun _ => rfl⟩
          simp [Instr.sliceBounds, Result.andThen, bound_real (P := P) (w := w) (ρ := ρ) hh (show h' ≤ cap + extra by omega)]
      | some mv =>
        simp at hb
        cases hh : asNat hv with
        | none => simp [hh] at hb
        | some h' =>
          cases hm : asNat mv with
          | none => simp [hh, hm] at hb
          | some m' =>
            simp [hh, hm] at hb
            obtain ⟨rfl, rfl, rfl, h1, h2, h3⟩ := fin hb
            refine ⟨?_, h1, h2, h3, fun e => by simp at e⟩
            simp [Instr.sliceBounds, Result.andThen, bound_real (P := P) (w := w) (ρ := ρ) hm (show m' ≤ cap + extra by omega), bound_real (P := P) (w := w) (ρ := ρ) hh h2]
  | some lv =>
    cases hl : asNat lv with
    | none => simp [hl] at hb
    | some l' =>
      cases hi with
      | none =>
        cases mx with
        | none =>
          simp [hl] at hb
          obtain ⟨rfl, rfl, rfl, h1, h2, h3⟩ := fin hb
          refine ⟨?_, h1, h2, h3, fun _ => rfl⟩
          simp [Instr.sliceBounds, Result.andThen, bound_real (P := P) (w := w) (ρ := ρ) hl h1]
        | some mv => simp at hmx
      | some hv =>
        cases mx with
        | none =>
          cases hh : asNat hv with
          | none => simp [hl, hh] at hb
          | some h' =>
            simp [hl, hh] at hb
            obtain ⟨rfl, rfl, rfl, h1, h2, h3⟩ := fin hb
            refine ⟨?_, h1, h2, h3, fun _ => rfl⟩
            simp [Instr.sliceBounds, Result.andThen, bound_real (P := P) (w := w) (ρ := ρ) hl h1, bound_real (P := P) (w := w) (ρ := ρ) hh (show h' ≤ cap + extra by omega)]
        | some mv =>
          cases hh : asNat hv with
          | none => simp [hl, hh] at hb
          | some h' =>
            cases hm : asNat mv with
            | none => simp [hl, hh, hm] at hb
            | some m' =>
              simp [hl, hh, hm] at hb
              obtain ⟨rfl, rfl, rfl, h1, h2, h3⟩ := fin hb
              refine ⟨?_, h1, h2, h3, fun e => by simp at e⟩
              simp [Instr.sliceBounds, Result.andThen, bound_real (P := P) (w := w) (ρ := ρ) hl h1, bound_real (P := P) (w := w) (ρ := ρ) hm (show m' ≤ cap + extra by omega), bound_real (P := P) (w := w) (ρ := ρ) hh h2]

/-- The arguments of a slice expression, as values. -/
theorem optArgs_inv (he : EInv ρ D n env a) {x : Operand} {lo hi mx : Option Operand} {rs : List Rand} (h : optArgs [some x, lo, hi, mx] = some rs) :
    ∃ (v : AV) (l h m : Option AV), rs.map env.ev = v :: (l.toList ++ (h.toList ++ m.toList)) ∧ a.eval x = real ρ v ∧ v.inD D ∧
      lo.map a.eval = l.map (real ρ) ∧ hi.map a.eval = h.map (real ρ) ∧ mx.map a.eval = m.map (real ρ) ∧ l.isSome = lo.isSome ∧ h.isSome = hi.isSome ∧ m.isSome = mx.isSome := by
  unfold optArgs at h
  have opt : ∀ (o : Option Operand) (r : List Rand) (xs : List Operand), randsOf (o.toList ++ xs) = some r → ∃ (ov : Option AV) (r' : List Rand), randsOf xs = some r' ∧ r.map env.ev = ov.toList ++ r'.map env.ev ∧
      o.map a.eval = ov.map (real ρ) ∧ ov.isSome = o.isSome := by
    intro o r xs hr
    cases o with
    | none => exact ⟨none, r, hr, by simp, rfl, rfl⟩
    | some y =>
      obtain ⟨q, r', rfl, h1, h2⟩ := rands_cons hr
      exact ⟨some (env.ev q), r', h2, by simp, by simp [(rand_real he h1).1], rfl⟩
  have e : ([some x, lo, hi, mx] : List (Option Operand)).filterMap id = x :: (lo.toList ++ (hi.toList ++ (mx.toList ++ []))) := by
    cases lo <;> cases hi <;> cases mx <;> rfl
  rw [e] at h
  obtain ⟨q, r', rfl, h1, h2⟩ := rands_cons h
  obtain ⟨l, r1, h3, e3, el, sl⟩ := opt lo _ _ h2
  obtain ⟨hh, r2, h4, e4, eh, sh⟩ := opt hi _ _ h3
  obtain ⟨m, r3, h5, e5, em, sm⟩ := opt mx _ _ h4
  simp [randsOf] at h5
  subst h5
  refine ⟨env.ev q, l, hh, m, ?_, (rand_real he h1).1, (rand_real he h1).2, el, eh, em, sl, sh, sm⟩
  simp only [List.map_cons]
  rw [e3, e4, e5]; simp

theorem slice_sound {t : TypeId} {x : Operand} {lo hi mx : Option Operand} {p : POp} {rs : List Rand} {v : AV} (he : EInv ρ D n env a) (hc : compOp P (.slice t x lo hi mx) = some (.p p, rs)) (hv : pI p (rs.map env.ev) = some v) :
    Val P ρ D w (do pure (.value (← Instr.sliceAt t (a.eval x) (lo.map a.eval) (hi.map a.eval) (mx.map a.eval)))) v := by
  simp only [compOp] at hc
  split at hc
  · simp at hc
  rename_i hmh
  have hmx : mx.isSome = true → hi.isSome = true := by
    intro h1; cases hi <;> simp_all
  split at hc
  · rename_i e hu
    split at hc
    · rename_i size hs
      simp only [Option.map_eq_some_iff] at hc
      obtain ⟨as, has, hq⟩ := hc
      simp only [Prod.mk.injEq, IOp.p.injEq] at hq
      obtain ⟨rfl, rfl⟩ := hq
      obtain ⟨xv, l, h, m, eargs, ex, dx, el, eh, em, sl, sh, sm⟩ := optArgs_inv he has
      rw [eargs, ← sl, ← sh, ← sm] at hv
      rw [← sh, ← sm] at hmx
      rw [ex, el, eh, em]
      have hsat : Instr.sliceAt t (real ρ xv) (l.map (real ρ)) (h.map (real ρ)) (m.map (real ρ)) = (do
          match ← underlying t with
          | .array n elem =>
            let a ← Instr.sureAddr (real ρ xv)
            let (l, h, m) ← Instr.sliceBounds false n n (l.map (real ρ)) (h.map (real ρ)) (m.map (real ρ))
            let size ← sizeOf elem
            pure (.slice (some (if m = l then a else a.add (l * size))) (h - l) (m - l))
          | _ => Instr.slice t (real ρ xv) (l.map (real ρ)) (h.map (real ρ)) (m.map (real ρ))) := rfl
      cases xv with
      | sl b o len cap opn =>
        simp only [pI] at hv
        split at hv
        · rename_i l' h' mm hb
          have hr := bounds_real (P := P) (w := w) (ρ := ρ) (isSlice := true) (extra := cond opn (ρ b).extra 0) hmx hb
          obtain ⟨hrun, h1, h2, h3, h4⟩ := hr
          cases hg : (Nat.beq mm l' && Nat.beq cap mm && opn) with
          | true => simp [hg] at hv
          | false =>
            simp only [hg, cond_false, Option.some.injEq] at hv
            subst hv
            refine val_of ?_ (by simpa [AV.inD] using dx)
            rw [hsat, Sem.run_bind, run_underlying hu]
            simp only [Result.andThen, real, Instr.slice, Sem.run_bind, run_underlying hu]
            rw [show (cond opn (cap + (ρ b).extra) cap) = cap + cond opn (ρ b).extra 0 by cases opn <;> simp]
            rw [hrun]
            simp only [Result.andThen, run_sizeOf hs, Sem.run_pure]
            congr 1
            cases hm : m.isSome with
            | true =>
              simp only [cond_true, cond_false]
              by_cases he1 : mm = l'
              · have : Nat.beq mm l' = true := by rw [he1]; exact Nat.beq_refl _
                simp [he1]
              · have : Nat.beq mm l' = false := by
                  cases hbb : Nat.beq mm l' with
                  | false => rfl
                  | true => exact absurd (Nat.eq_of_beq_eq_true hbb) he1
                simp [he1, this, add_real]
            | false =>
              have hmc := h4 hm
              subst hmc
              simp only [cond_false]
              cases opn with
              | false =>
                simp only [cond_false, Nat.add_zero]
                by_cases he1 : mm = l'
                · simp [he1]
                · have : Nat.beq mm l' = false := by
                    cases hbb : Nat.beq mm l' with
                    | false => rfl
                    | true => exact absurd (Nat.eq_of_beq_eq_true hbb) he1
                  simp [he1, this, add_real]
              | true =>
                simp only [Nat.beq_refl, Bool.and_true] at hg
                have hne : mm ≠ l' := by
                  intro e
                  rw [e, Nat.beq_refl] at hg
                  simp at hg
                simp only [cond_true]
                rw [if_neg (by omega)]
                simp only [hg, cond_false, Option.map_some, add_real]
                congr 1
                omega
        · simp at hv
      | nils =>
        simp only [pI] at hv
        split at hv
        · rename_i q hb
          obtain ⟨l', h', mm⟩ := q
          simp only [Option.some.injEq] at hv
          subst hv
          have hr := bounds_real (P := P) (w := w) (ρ := ρ) (isSlice := true) (extra := 0) hmx hb
          obtain ⟨hrun, h1, h2, h3, h4⟩ := hr
          refine val_of ?_ (by simp [AV.inD])
          rw [hsat, Sem.run_bind, run_underlying hu]
          simp only [Result.andThen, real, Instr.slice, Sem.run_bind, run_underlying hu]
          simp only [Nat.add_zero] at hrun
          rw [hrun]
          simp only [Result.andThen, run_sizeOf hs, Sem.run_pure]
          have hm0 : mm = 0 := by omega
          have hh0 : h' = 0 := by omega
          have hl0 : l' = 0 := by omega
          subst hm0 hh0 hl0
          cases m.isSome <;> simp
        · simp at hv
      | _ => simp [pI] at hv
    · simp at hc
  · rename_i hu
    split at hc
    · simp at hc
    rename_i hmn
    have hmn' : mx = none := by cases mx <;> simp_all
    subst hmn'
    simp only [Option.map_eq_some_iff] at hc
    obtain ⟨as, has, hq⟩ := hc
    simp only [Prod.mk.injEq, IOp.p.injEq] at hq
    obtain ⟨rfl, rfl⟩ := hq
    have has' : optArgs [some x, lo, hi, none] = some as := has
    obtain ⟨xv, l, h, m, eargs, ex, dx, el, eh, em, sl, sh, sm⟩ := optArgs_inv he has'
    have hm : m = none := by cases m <;> simp_all
    subst hm
    rw [eargs, ← sl, ← sh] at hv
    rw [ex, el, eh]
    cases xv with
    | str s =>
      simp only [pI] at hv
      split at hv
      · rename_i l' h' mm hb
        simp only [Option.some.injEq] at hv
        subst hv
        have hr := bounds_real (P := P) (w := w) (ρ := ρ) (isSlice := false) (extra := 0) (lo := l) (hi := h) (mx := none) (by simp) hb
        obtain ⟨hrun, h1, h2, h3, h4⟩ := hr
        refine val_of ?_ (by simp [AV.inD])
        simp only [Instr.sliceAt, Sem.run_bind, run_underlying hu, Result.andThen, real, Instr.slice, Option.map_none, Option.isSome_none, Bool.false_eq_true, if_false, Sem.run_pure]
        simp only [Nat.add_zero, Option.map_none] at hrun
        rw [show (⟨s.toArray⟩ : ByteArray).size = s.length by simp [ByteArray.size], hrun]
        simp only [Result.andThen]
        congr 2
        apply ByteArray.ext
        rw [ByteArray.data_extract]
        apply Array.ext'
        simp [List.extract_eq_take_drop]
        rw [List.drop_take]
      · simp at hv
    | _ => simp [pI] at hv
  · rename_i len e hu
    split at hc
    · rename_i size hs
      simp only [Option.map_eq_some_iff] at hc
      obtain ⟨as, has, hq⟩ := hc
      simp only [Prod.mk.injEq, IOp.p.injEq] at hq
      obtain ⟨rfl, rfl⟩ := hq
      obtain ⟨xv, l, h, m, eargs, ex, dx, el, eh, em, sl, sh, sm⟩ := optArgs_inv he has
      rw [eargs, ← sl, ← sh, ← sm] at hv
      rw [← sh, ← sm] at hmx
      rw [ex, el, eh, em]
      cases xv with
      | ptr b o =>
        simp only [pI] at hv
        split at hv
        · rename_i l' h' mm hb
          simp only [Option.some.injEq] at hv
          subst hv
          have hr := bounds_real (P := P) (w := w) (ρ := ρ) (isSlice := false) (extra := 0) hmx hb
          obtain ⟨hrun, h1, h2, h3, h4⟩ := hr
          refine val_of ?_ (by simpa [AV.inD] using dx)
          simp only [Nat.add_zero] at hrun
          simp only [Instr.sliceAt, Sem.run_bind, run_underlying hu, Result.andThen, real, Instr.sureAddr, Sem.run_pure]
          rw [hrun]
          simp only [Result.andThen, run_sizeOf hs, Sem.run_pure]
          have hmm : cond m.isSome mm len = mm := by
            cases hm : m.isSome with
            | true => rfl
            | false => exact (h4 hm).symm
          rw [hmm]
          congr 2
          by_cases he1 : mm = l'
          · simp [he1]
          · have : Nat.beq mm l' = false := by
              cases hbb : Nat.beq mm l' with
              | false => rfl
              | true => exact absurd (Nat.eq_of_beq_eq_true hbb) he1
            simp [he1, this, add_real]
        · simp at hv
      | _ => simp [pI] at hv
    · simp at hc
  · simp at hc
end
end Ads
end Go.Proofs.Ytflmbknimebmnaa
