/-
  The other operations without memory.
-/
import Derived.Test.YtflmbknimebmnaaAdsPureC
set_option linter.unusedSimpArgs false
set_option linter.unusedVariables false
namespace Go.Proofs.Ytflmbknimebmnaa
namespace Ads
section
variable {P : Program} {ρ : Rho} {D : Dom} {w : World} {n : Nat} {env : Env} {a : Act}

theorem one_one {q : IOp} {x : Operand} {p : POp} {rs : List Rand} (he : EInv ρ D n env a) (h : one q [x] = some (.p p, rs)) :
    q = .p p ∧ ∃ r, rs = [r] ∧ a.eval x = real ρ (env.ev r) ∧ (env.ev r).inD D := by
  obtain ⟨rs', h1, h2⟩ := one_some h
  simp only [Prod.mk.injEq] at h2
  obtain ⟨r, rfl, hr⟩ := rands_one h1
  exact ⟨h2.1.symm, r, h2.2, (rand_real he hr).1, (rand_real he hr).2⟩

theorem one_two {q : IOp} {x y : Operand} {p : POp} {rs : List Rand} (he : EInv ρ D n env a) (h : one q [x, y] = some (.p p, rs)) :
    q = .p p ∧ ∃ r s, rs = [r, s] ∧ a.eval x = real ρ (env.ev r) ∧ a.eval y = real ρ (env.ev s) ∧ (env.ev r).inD D ∧ (env.ev s).inD D := by
  obtain ⟨rs', h1, h2⟩ := one_some h
  simp only [Prod.mk.injEq] at h2
  obtain ⟨r, s, rfl, hr, hs⟩ := rands_two h1
  exact ⟨h2.1.symm, r, s, h2.2, (rand_real he hr).1, (rand_real he hs).1, (rand_real he hr).2, (rand_real he hs).2⟩

theorem move_sound {x : Operand} {p : POp} {rs : List Rand} {v : AV} (he : EInv ρ D n env a) (hc : one (.p .mov) [x] = some (.p p, rs)) (hv : pI p (rs.map env.ev) = some v) :
    a.eval x = real ρ v ∧ v.inD D := by
  obtain ⟨hq, r, rfl, e1, d1⟩ := one_one he hc
  simp only [IOp.p.injEq] at hq
  subst hq
  simp only [List.map_cons, List.map_nil, pI, Option.some.injEq] at hv
  subst hv
  exact ⟨e1, d1⟩

theorem pick_sound {c x y : Operand} {p : POp} {rs : List Rand} {v : AV} (he : EInv ρ D n env a) (hc : one (.p .pick) [c, x, y] = some (.p p, rs)) (hv : pI p (rs.map env.ev) = some v) :
    Val P ρ D w (do pure (.value (if ← asBool (a.eval c) then a.eval x else a.eval y))) v := by
  obtain ⟨rs', h1, h2⟩ := one_some hc
  simp only [Prod.mk.injEq, IOp.p.injEq] at h2
  obtain ⟨rfl, rfl⟩ := h2
  obtain ⟨r, s, t, rfl, h1, h2, h3⟩ := rands_three h1
  have e1 := rand_real he h1
  have e2 := rand_real he h2
  have e3 := rand_real he h3
  simp only [List.map_cons, List.map_nil] at hv
  rw [e1.1, e2.1, e3.1]
  cases hb : env.ev r with
  | bool b =>
    rw [hb] at hv
    simp only [pI, Option.some.injEq] at hv
    subst hv
    unfold Val
    cases b <;> simp [real, asBool, Result.andThen, e2.2, e3.2]
  | _ => rw [hb] at hv; simp [pI] at hv

theorem run_build {t : TypeId} {ps : List (Nat × Operand)} {places : List (Nat × Nat)} {rs : List Rand} {z : AV} {cs : List AV} {pl : Nat → Option (Nat × Nat)} (he : EInv ρ D n env a)
    (hz : zeroT P t = some z) (hps : partsOf ps pl = some (places, rs)) (hf : fill z.cells places (rs.map env.ev) = some cs) :
    Instr.fill pl (real ρ z).cells (ps.map fun p => (p.1, a.eval p.2)) = some (reals ρ cs).toArray ∧ allD D cs := by
  have hp := parts_inv he hps
  have hzd := (run_zeroValue (P := P) (w := default) hz ρ D).2
  rw [zip_map_pair a.eval, hp.2.1, real_cells]
  have := fill_real (ρ := ρ) (D := D) hp.1 hf hp.2.2 (cells_inD hzd)
  exact ⟨this.1, this.2.1⟩

theorem build_sound {t : TypeId} {ps : Array (Nat × Operand)} {p : POp} {rs : List Rand} {v : AV} (he : EInv ρ D n env a) (hc : compOp P (.build t ps) = some (.p p, rs)) (hv : pI p (rs.map env.ev) = some v) :
    Val P ρ D w (do pure (.value (← Instr.build t (ps.map fun (i, x) => (i, a.eval x))))) v := by
  simp only [compOp] at hc
  split at hc
  · rename_i z fs hz hu
    split at hc
    · simp at hc
    · rename_i hall
      simp only [Option.map_eq_some_iff] at hc
      obtain ⟨⟨places, rs'⟩, hps, hq⟩ := hc
      simp only [Prod.mk.injEq, IOp.p.injEq] at hq
      obtain ⟨rfl, rfl⟩ := hq
      simp only [pI, Option.map_eq_some_iff] at hv
      obtain ⟨cs, hf, rfl⟩ := hv
      have hb := run_build he hz hps hf
      refine val_of ?_ (by simp only [AV.inD]; exact hb.2)
      simp only [Instr.build, Sem.run_bind, (run_zeroValue hz ρ D).1, Result.andThen, run_underlying hu, Sem.run_pure]
      have hall' : ∀ f ∈ fs.toList, (sizeT P f.type).isSome = true := by
        simp only [Bool.not_eq_true', Bool.not_eq_false] at hall
        intro f hf
        have := Array.all_eq_true_iff_forall_mem.1 hall f (by simpa using hf)
        exact this
      have hm := run_mapM_array (P := P) (w := w) (fun f : Field => (do pure (f.offset, ← sizeOf f.type) : Sem (Nat × Nat))) (fun f : Field => (f.offset, (sizeT P f.type).getD 0)) fs (by
        intro f hf
        obtain ⟨k, hk⟩ := Option.isSome_iff_exists.1 (hall' f hf)
        rw [Sem.run_bind, run_sizeOf hk]
        simp [Result.andThen, hk])
      rw [hm]
      simp only [Result.andThen]
      have hpl : (fun i => (fs.map fun f : Field => (f.offset, (sizeT P f.type).getD 0))[i]?) = fieldPlaceOf P fs := by
        funext i
        unfold fieldPlaceOf
        rw [Array.getElem?_map]
        cases hfi : fs[i]? with
        | none => rfl
        | some f =>
          obtain ⟨k, hk⟩ := Option.isSome_iff_exists.1 (hall' f (by
            have := Array.mem_of_getElem? hfi
            simpa using this))
          simp [hk]
      rw [hpl]
      have e : (ps.map fun (p : Nat × Operand) => (p.1, a.eval p.2)).toList = ps.toList.map fun p => (p.1, a.eval p.2) := by simp
      rw [show (ps.map fun (i, x) => (i, a.eval x)).toList = ps.toList.map fun p => (p.1, a.eval p.2) from e, hb.1]
      simp [real]
  · rename_i z len e hz hu
    split at hc
    · rename_i k hk
      simp only [Option.map_eq_some_iff] at hc
      obtain ⟨⟨places, rs'⟩, hps, hq⟩ := hc
      simp only [Prod.mk.injEq, IOp.p.injEq] at hq
      obtain ⟨rfl, rfl⟩ := hq
      simp only [pI, Option.map_eq_some_iff] at hv
      obtain ⟨cs, hf, rfl⟩ := hv
      have hb := run_build he hz hps hf
      refine val_of ?_ (by simp only [AV.inD]; exact hb.2)
      simp only [Instr.build, Sem.run_bind, (run_zeroValue hz ρ D).1, Result.andThen, run_underlying hu, Sem.run_pure, run_sizeOf hk]
      have e : (ps.map fun (p : Nat × Operand) => (p.1, a.eval p.2)).toList = ps.toList.map fun p => (p.1, a.eval p.2) := by simp
      rw [show (ps.map fun (i, x) => (i, a.eval x)).toList = ps.toList.map fun p => (p.1, a.eval p.2) from e, hb.1]
      simp [real]
    · simp at hc
  · simp at hc

theorem nilcheck_sound {x : Operand} {p : POp} {rs : List Rand} {v : AV} (he : EInv ρ D n env a) (o : Oper) (ho : o.op = .nilCheck x) (hc : one (.p .nilchk) [x] = some (.p p, rs)) (hv : pI p (rs.map env.ev) = some v) :
    Val P ρ D w (execOp a.eval o) v := by
  obtain ⟨hq, r, rfl, e1, d1⟩ := one_one he hc
  simp only [IOp.p.injEq] at hq
  subst hq
  simp only [List.map_cons, List.map_nil] at hv
  unfold execOp
  rw [ho]
  simp only
  rw [e1]
  cases hr : env.ev r with
  | ptr b o =>
    rw [hr] at hv d1
    simp only [pI, Option.some.injEq] at hv
    subst hv
    exact ⟨by simp [real], d1⟩
  | _ => rw [hr] at hv; simp [pI] at hv

theorem conv_sound {s d : TypeId} {x : Operand} {p : POp} {rs : List Rand} {v : AV} (he : EInv ρ D n env a) (hc : compOp P (.convert s d x) = some (.p p, rs)) (hv : pI p (rs.map env.ev) = some v) :
    Val P ρ D w (do pure (.value (← convert s d (a.eval x)))) v := by
  simp only [compOp] at hc
  split at hc
  · rename_i sd k hs hd
    obtain ⟨hq, r, rfl, e1, d1⟩ := one_one he hc
    simp only [IOp.p.injEq] at hq
    subst hq
    simp only [List.map_cons, List.map_nil] at hv
    rw [e1]
    cases hr : env.ev r with
    | int k' m =>
      rw [hr] at hv
      simp only [pI, Option.some.injEq] at hv
      subst hv
      refine val_of ?_ (by simp [AV.inD])
      simp [convert, run_underlying hs, run_underlying hd, Conv.intToInt, real, Result.andThen]
    | _ => rw [hr] at hv; simp [pI] at hv
  · rename_i hs hd
    obtain ⟨hq, r, rfl, e1, d1⟩ := one_one he hc
    simp only [IOp.p.injEq] at hq
    subst hq
    simp only [List.map_cons, List.map_nil] at hv
    rw [e1]
    cases hr : env.ev r with
    | str m =>
      rw [hr] at hv
      simp only [pI, Option.some.injEq] at hv
      subst hv
      refine val_of ?_ (by simp [AV.inD])
      simp [convert, run_underlying hs, run_underlying hd, real, Result.andThen]
    | _ => rw [hr] at hv; simp [pI] at hv
  · split at hc
    · obtain ⟨rs', h1, h2⟩ := one_some hc; simp at h2
    · simp at hc
  · split at hc
    · obtain ⟨rs', h1, h2⟩ := one_some hc; simp at h2
    · simp at hc
  · simp at hc

theorem fieldAddr_sound {t : TypeId} {x : Operand} {i : Nat} {p : POp} {rs : List Rand} {v : AV} (he : EInv ρ D n env a) (hc : compOp P (.fieldAddr t x i) = some (.p p, rs)) (hv : pI p (rs.map env.ev) = some v) :
    Val P ρ D w (do pure (.value (← Instr.fieldAt t (a.eval x) i))) v := by
  simp only [compOp] at hc
  split at hc
  · rename_i fs hu
    split at hc
    · rename_i f hf
      split at hc
      · rename_i k hk
        obtain ⟨hq, r, rfl, e1, d1⟩ := one_one he hc
        simp only [IOp.p.injEq] at hq
        subst hq
        simp only [List.map_cons, List.map_nil] at hv
        rw [e1]
        cases hr : env.ev r with
        | ptr b o =>
          rw [hr] at hv d1
          simp only [pI, Option.some.injEq] at hv
          subst hv
          refine val_of ?_ (by simpa [AV.inD] using d1)
          simp [Instr.fieldAt, run_underlying hu, hf, Instr.sureAddr, fieldPlace, run_sizeOf hk, real, Result.andThen, add_real]
        | _ => rw [hr] at hv; simp [pI] at hv
      · simp at hc
    · simp at hc
  · simp at hc

theorem field_sound {t : TypeId} {x : Operand} {i : Nat} {p : POp} {rs : List Rand} {v : AV} (he : EInv ρ D n env a) (hc : compOp P (.field t x i) = some (.p p, rs)) (hv : pI p (rs.map env.ev) = some v) :
    Val P ρ D w (do pure (.value (← Instr.field t (a.eval x) i))) v := by
  simp only [compOp] at hc
  split at hc
  · rename_i fs hu
    split at hc
    · rename_i f hf
      split at hc
      · rename_i g k hg hk
        obtain ⟨hq, r, rfl, e1, d1⟩ := one_one he hc
        simp only [IOp.p.injEq] at hq
        subst hq
        simp only [List.map_cons, List.map_nil] at hv
        rw [e1]
        cases hr : env.ev r with
        | agg cs =>
          rw [hr] at hv d1
          simp only [pI] at hv
          simp only [AV.inD] at d1
          have hp := part_real (P := P) (ρ := ρ) (w := w) hg hk hv d1
          refine val_of ?_ hp.2
          simp [Instr.field, run_underlying hu, hf, asAgg, real, Result.andThen, hp.1]
        | _ => rw [hr] at hv; simp [pI] at hv
      · simp at hc
    · simp at hc
  · simp at hc

theorem indexAddr_sound {t : TypeId} {x y : Operand} {p : POp} {rs : List Rand} {v : AV} (he : EInv ρ D n env a) (hc : compOp P (.indexAddr t x y) = some (.p p, rs)) (hv : pI p (rs.map env.ev) = some v) :
    Val P ρ D w (do pure (.value (← Instr.indexAt t (a.eval x) (a.eval y)))) v := by
  simp only [compOp] at hc
  split at hc
  · rename_i e hu
    simp only [Option.bind_eq_some_iff] at hc
    obtain ⟨k, hk, hc⟩ := hc
    obtain ⟨hq, r, s, rfl, e1, e2, d1, d2⟩ := one_two he hc
    simp only [IOp.p.injEq] at hq
    subst hq
    simp only [List.map_cons, List.map_nil] at hv
    rw [e1, e2]
    cases hr : env.ev r with
    | sl b o len cap opn =>
      rw [hr] at hv d1
      simp only [pI] at hv
      cases hn : asNat (env.ev s) with
      | none => simp [hn] at hv
      | some i =>
        simp only [hn] at hv
        obtain ⟨ik, hs⟩ := asNat_int hn
        rw [hs]
        cases hb : Nat.ble (i + 1) len with
        | false => simp [hb] at hv
        | true =>
          simp only [hb, cond_true, Option.some.injEq] at hv
          subst hv
          have hle := Nat.le_of_ble_eq_true hb
          refine val_of ?_ (by simpa [AV.inD] using d1)
          simp only [real, Instr.indexAt, asIntOf, Sem.run_bind, Sem.run_pure, Result.andThen, run_underlying hu]
          rw [if_pos ⟨by omega, by omega⟩]
          simp [Sem.run_bind, run_sizeOf hk, Result.andThen, add_real]
    | _ => rw [hr] at hv; simp [pI] at hv
  · rename_i len e hu
    simp only [Option.bind_eq_some_iff] at hc
    obtain ⟨k, hk, hc⟩ := hc
    obtain ⟨hq, r, s, rfl, e1, e2, d1, d2⟩ := one_two he hc
    simp only [IOp.p.injEq] at hq
    subst hq
    simp only [List.map_cons, List.map_nil] at hv
    rw [e1, e2]
    cases hr : env.ev r with
    | ptr b o =>
      rw [hr] at hv d1
      simp only [pI] at hv
      cases hn : asNat (env.ev s) with
      | none => simp [hn] at hv
      | some i =>
        simp only [hn] at hv
        obtain ⟨ik, hs⟩ := asNat_int hn
        rw [hs]
        cases hb : Nat.ble (i + 1) len with
        | false => simp [hb] at hv
        | true =>
          simp only [hb, cond_true, Option.some.injEq] at hv
          subst hv
          have hle := Nat.le_of_ble_eq_true hb
          refine val_of ?_ (by simpa [AV.inD] using d1)
          simp only [real, Instr.indexAt, asIntOf, Sem.run_bind, Sem.run_pure, Result.andThen, run_underlying hu, Instr.sureAddr]
          have hlt : 0 ≤ (i : Int) ∧ (i : Int) < (len : Int) := ⟨by omega, by omega⟩
          by_cases h1 : len ≤ 1
          · simp [hlt, h1, run_underlying hu, Sem.run_bind, run_sizeOf hk, Result.andThen, add_real]
          · simp [hlt, h1, Sem.run_bind, run_sizeOf hk, Result.andThen, add_real]
    | _ => rw [hr] at hv; simp [pI] at hv
  · simp at hc

theorem index_sound {t : TypeId} {x y : Operand} {p : POp} {rs : List Rand} {v : AV} (he : EInv ρ D n env a) (hc : compOp P (.index t x y) = some (.p p, rs)) (hv : pI p (rs.map env.ev) = some v) :
    Val P ρ D w (do pure (.value (← Instr.index t (a.eval x) (a.eval y)))) v := by
  simp only [compOp] at hc
  split at hc
  · rename_i hu
    obtain ⟨hq, r, s, rfl, e1, e2, d1, d2⟩ := one_two he hc
    simp only [IOp.p.injEq] at hq
    subst hq
    simp only [List.map_cons, List.map_nil] at hv
    rw [e1, e2]
    cases hr : env.ev r with
    | str l =>
      rw [hr] at hv
      simp only [pI] at hv
      cases hn : asNat (env.ev s) with
      | none => simp [hn] at hv
      | some i =>
        simp only [hn, Option.map_eq_some_iff] at hv
        obtain ⟨b, hb, rfl⟩ := hv
        obtain ⟨ik, hs⟩ := asNat_int hn
        rw [hs]
        refine val_of ?_ (by simp [AV.inD])
        have hlt : i < l.length := (List.getElem?_eq_some_iff.1 hb).1
        have hget : (⟨l.toArray⟩ : ByteArray)[i]? = some b := by
          rw [getElem?_def]
          have : i < (⟨l.toArray⟩ : ByteArray).size := by simpa [ByteArray.size] using hlt
          rw [dif_pos this]
          have := (List.getElem?_eq_some_iff.1 hb).2
          simp [← this]; rfl
        simp only [real, Instr.index, asIntOf, Sem.run_bind, Sem.run_pure, Result.andThen, run_underlying hu]
        simp [hget]
    | _ => rw [hr] at hv; simp [pI] at hv
  · rename_i len e hu
    split at hc
    · rename_i g k hg hk
      obtain ⟨hq, r, s, rfl, e1, e2, d1, d2⟩ := one_two he hc
      simp only [IOp.p.injEq] at hq
      subst hq
      simp only [List.map_cons, List.map_nil] at hv
      rw [e1, e2]
      cases hr : env.ev r with
      | agg cs =>
        rw [hr] at hv d1
        simp only [pI] at hv
        simp only [AV.inD] at d1
        cases hn : asNat (env.ev s) with
        | none => simp [hn] at hv
        | some i =>
          simp only [hn] at hv
          obtain ⟨ik, hs⟩ := asNat_int hn
          rw [hs]
          cases hb : Nat.ble (i + 1) len with
          | false => simp [hb] at hv
          | true =>
            simp only [hb, cond_true] at hv
            have hle := Nat.le_of_ble_eq_true hb
            have hp := part_real (P := P) (ρ := ρ) (w := w) hg hk hv d1
            refine val_of ?_ hp.2
            simp only [real, Instr.index, asIntOf, Sem.run_bind, Sem.run_pure, Result.andThen, run_underlying hu]
            rw [if_pos ⟨by omega, by omega⟩]
            simp [Sem.run_bind, run_sizeOf hk, Result.andThen, hp.1]
      | _ => rw [hr] at hv; simp [pI] at hv
    · simp at hc
  · simp at hc

theorem extract_sound {x : Operand} {i : Nat} {p : POp} {rs : List Rand} {v : AV} (he : EInv ρ D n env a) (hc : one (.p (.ext i)) [x] = some (.p p, rs)) (hv : pI p (rs.map env.ev) = some v) :
    Val P ρ D w (do pure (.value (← Instr.extract (a.eval x) i))) v := by
  obtain ⟨hq, r, rfl, e1, d1⟩ := one_one he hc
  simp only [IOp.p.injEq] at hq
  subst hq
  simp only [List.map_cons, List.map_nil] at hv
  rw [e1]
  cases hr : env.ev r with
  | tup vs =>
    rw [hr] at hv d1
    simp only [pI] at hv
    simp only [AV.inD] at d1
    refine val_of ?_ ((allD_iff D vs).1 d1 v (List.mem_of_getElem? hv))
    have : (reals ρ vs).toArray[i]? = some (real ρ v) := by rw [List.getElem?_toArray, reals_get, hv]; rfl
    simp only [real, Instr.extract, this, Sem.run_pure]
  | _ => rw [hr] at hv; simp [pI] at hv
end
end Ads
end Go.Proofs.Ytflmbknimebmnaa
