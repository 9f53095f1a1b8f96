/-
  Operations that make memory, read it, write it.
-/
import Derived.Test.YtflmbknimebmnaaAdsPureF
set_option linter.unusedSimpArgs false
set_option linter.unusedVariables false
namespace Go.Proofs.Ytflmbknimebmnaa
namespace Ads
section
variable {P : Program} {H0 : Nat} {ρ : Rho} {D : Dom} {h : Heap} {w : World} {n : Nat} {env : Env} {a : Act}

theorem one_of {q op : IOp} {xs : List Operand} {rs : List Rand} (h : one q xs = some (op, rs)) : q = op ∧ randsOf xs = some rs := by
  obtain ⟨rs', h1, h2⟩ := one_some h
  simp only [Prod.mk.injEq] at h2
  exact ⟨h2.1.symm, by rw [h2.2]; exact h1⟩

theorem i64_nat {k : Nat} (h : k ≤ 9223372036854775807) : IntKind.i64.wrap (k : Int) = k := IntWalk.i64_in _ (by omega)

theorem zerosN_length (z : List AV) : ∀ k, (zerosN z k).length = k * z.length
  | 0 => by simp [zerosN]
  | k + 1 => by simp [zerosN, zerosN_length z k, Nat.succ_mul]; omega

theorem zerosN_get (z : List AV) : ∀ (k i : Nat), i < k * z.length → (zerosN z k)[i]? = z[i % z.length]?
  | 0, i, h => by simp at h
  | k + 1, i, h => by
    simp only [zerosN]
    by_cases hi : i < z.length
    · rw [List.getElem?_append_left hi, Nat.mod_eq_of_lt hi]
    · rw [List.getElem?_append_right (by omega), zerosN_get z k _ (by rw [Nat.succ_mul] at h; omega)]
      congr 1
      rw [Nat.mod_eq_sub_mod (by omega : i ≥ z.length)]

theorem zerosN_real (ρ : Rho) (z : List AV) (k m : Nat) (hm : m = k * z.length) : (Array.range m).map (fun i => (reals ρ z).toArray[i % (reals ρ z).toArray.size]!) = (reals ρ (zerosN z k)).toArray := by
  subst hm
  apply Array.ext_getElem?
  intro i
  rw [Array.getElem?_map, show (reals ρ (zerosN z k)).toArray[i]? = (reals ρ (zerosN z k))[i]? from List.getElem?_toArray, reals_get]
  by_cases hi : i < k * z.length
  · have hz : 0 < z.length := by
      rcases Nat.eq_zero_or_pos z.length with e | e
      · rw [e] at hi; simp at hi
      · exact e
    have hlt : i % z.length < z.length := Nat.mod_lt _ hz
    rw [zerosN_get z k i hi]
    have hr : (Array.range (k * z.length))[i]? = some i := by simp [hi]
    rw [hr]
    simp only [Option.map_some, List.size_toArray, reals_length]
    rw [List.getElem?_eq_getElem hlt]
    simp only [Option.map_some, Option.some.injEq]
    have h2 : (reals ρ z)[i % z.length]? = some (real ρ z[i % z.length]) := by rw [reals_get, List.getElem?_eq_getElem hlt]; rfl
    rw [List.getElem!_toArray, List.getElem!_eq_getElem?_getD, h2]
    rfl
  · rw [List.getElem?_eq_none (by rw [zerosN_length]; omega)]
    have hr : (Array.range (k * z.length))[i]? = none := by simp; omega
    rw [hr]; rfl

theorem alloc_new (w : World) (o : Obj) : (w.alloc o).heap[w.heap.size]? = some o := by
  show (w.heap.push o)[w.heap.size]? = some o
  simp

/-- A new row of cells, as a block. -/
theorem blk_row {ρ' : Rho} {D' : Dom} {cs : List AV} (hd : allD D' cs) (t : TypeId) (hlow : H0 ≤ w.heap.size) :
    blkReal P H0 ρ' D' ⟨w.heap.size, 0, 0⟩ (.cells cs true 0) (w.alloc (.cells (reals ρ' cs).toArray t)) := by
  refine ⟨(reals ρ' cs).toArray, t, (0, 0), alloc_new _ _, ?_, fun _ => ⟨hlow, by simp [reals_length], fun i h1 h2 => by simp at h2⟩⟩
  intro i v hv
  refine ⟨?_, (allD_iff D' cs).1 hd v (List.mem_of_getElem? hv)⟩
  simp [reals_get, hv]

/-- What an operation that makes memory must come to. -/
def Made (P : Program) (H0 : Nat) (ρ : Rho) (D : Dom) (w : World) (s : Sem Next) (x : Blk) (f : Nat → AV) : Prop :=
  ∃ obj : Obj, (∀ (b : Nat) (ρ' : Rho), ρ' b = ⟨w.heap.size, 0, 0⟩ → s.run P w = .ok (.value (real ρ' (f b))) (w.alloc obj)) ∧
    (∀ (ρ' : Rho) (D' : Dom), (∀ b, D b → D' b) → (∀ b, D b → ρ' b = ρ b) → H0 ≤ w.heap.size → blkReal P H0 ρ' D' ⟨w.heap.size, 0, 0⟩ x (w.alloc obj)) ∧
    (∀ (b : Nat) (D' : Dom), D' b → (f b).inD D')

theorem made_row {s : Sem Next} {cs : List AV} {f : Nat → AV} (t : TypeId) (hd : allD D cs)
    (hs : ∀ (b : Nat) (ρ' : Rho), ρ' b = ⟨w.heap.size, 0, 0⟩ → s.run P w = .ok (.value (real ρ' (f b))) (w.alloc (.cells (reals ρ cs).toArray t)))
    (hf : ∀ (b : Nat) (D' : Dom), D' b → (f b).inD D') : Made P H0 ρ D w s (.cells cs true 0) f := by
  refine ⟨_, hs, ?_, hf⟩
  intro ρ' D' h1 h2 hl
  rw [← reals_agree h2 cs hd]
  exact blk_row (allD_mono h1 cs hd) t hl

theorem run_newRow (t : TypeId) (c : Array Value) : (newRow t c).run P w = .ok ⟨w.heap.size, 0, none⟩ (w.alloc (.cells c t)) := by
  simp [newRow, Result.andThen]

theorem aI_sound {o : Oper} {op : AOp} {rs : List Rand} {x : Blk} {f : Nat → AV} (he : EInv ρ D n env a) (hc : compOp P o.op = some (.a op, rs)) (hv : aI op (rs.map env.ev) = some (x, f)) :
    Made P H0 ρ D w (execOp a.eval o) x f := by
  cases ho : o.op <;> rw [ho] at hc
  case alloc t =>
    simp only [compOp, Option.bind_eq_some_iff] at hc
    obtain ⟨z, hz, hc⟩ := hc
    obtain ⟨hq, hr⟩ := one_of hc
    simp only [IOp.a.injEq] at hq
    subst hq
    simp [randsOf] at hr
    subst hr
    simp only [List.map_nil, aI, Option.some.injEq, Prod.mk.injEq] at hv
    obtain ⟨rfl, rfl⟩ := hv
    have hzv := run_zeroValue (P := P) (w := w) hz ρ D
    refine made_row t (cells_inD hzv.2) ?_ (fun b D' hb => by simpa [AV.inD] using hb)
    intro b ρ' hb
    unfold execOp; rw [ho]
    simp only [Instr.alloc, newVar, Sem.run_bind, hzv.1, Result.andThen, run_newRow, Sem.run_pure, real, hb, real_cells]
  case box t y =>
    simp only [compOp] at hc
    obtain ⟨hq, hr⟩ := one_of hc
    simp only [IOp.a.injEq] at hq
    subst hq
    obtain ⟨r, rfl, h1⟩ := rands_one hr
    have e1 := rand_real he h1
    simp only [List.map_cons, List.map_nil, aI, Option.some.injEq, Prod.mk.injEq] at hv
    obtain ⟨rfl, rfl⟩ := hv
    refine made_row t (cells_inD e1.2) ?_ (fun b D' hb => by simpa [AV.inD] using hb)
    intro b ρ' hb
    unfold execOp; rw [ho]
    simp only [Instr.box, newVar, Sem.run_bind, Result.andThen, run_newRow, Sem.run_pure, real, hb, e1.1, real_cells]
  case buildSlice t len ps =>
    simp only [compOp] at hc
    split at hc
    · rename_i e hu
      split at hc
      · rename_i k z hk hz
        split at hc
        · simp at hc
        · rename_i hcond
          simp only [Option.map_eq_some_iff] at hc
          obtain ⟨⟨pls, as⟩, hps, hq⟩ := hc
          simp only [Prod.mk.injEq, IOp.a.injEq] at hq
          obtain ⟨rfl, rfl⟩ := hq
          simp only [Bool.or_eq_true, decide_eq_true_eq, bne_iff_ne, ne_eq, not_or, Decidable.not_not] at hcond
          obtain ⟨hc1, hc2⟩ := hcond
          have hp := parts_inv he hps
          simp only [aI] at hv
          split at hv
          · rename_i cs hf
            simp only [Option.some.injEq, Prod.mk.injEq] at hv
            obtain ⟨rfl, rfl⟩ := hv
            have hzv := run_zeroValue (P := P) (w := w) hz ρ D
            have hzd : allD D (zerosN z.cells len) := by
              rw [allD_iff]
              intro v hv'
              obtain ⟨j, hj⟩ := List.mem_iff_getElem?.1 hv'
              have hjl : j < len * z.cells.length := by
                have := (List.getElem?_eq_some_iff.1 hj).1
                rw [zerosN_length] at this; exact this
              rw [zerosN_get _ _ _ hjl] at hj
              exact (allD_iff D _).1 (cells_inD hzv.2) v (List.mem_of_getElem? hj)
            have hpl : (ps.toList.map (·.1)) = pls.map (·.1) := by
              have := hp.1
              have h2 : (ps.toList.map (·.1)).map (fun i => (some (i, 0) : Option (Nat × Nat))) = pls.map some := this
              have h3 := congrArg (List.map (fun o : Option (Nat × Nat) => (o.getD (0, 0)).1)) h2
              simpa [Function.comp_def] using h3
            have hfill := fill_real (ρ := ρ) (D := D) (pl := fun i => some (i * k, k)) (idx := ps.toList.map (·.1)) (by
              rw [hpl]; simp [Function.comp_def]) hf hp.2.2 hzd
            refine made_row e hfill.2.1 ?_ (fun b D' hb => by simpa [AV.inD] using hb)
            intro b ρ' hb
            unfold execOp; rw [ho]
            have hparts : (ps.map fun (i, x) => (i, a.eval x)).toList = (ps.toList.map (·.1)).zip (reals ρ (as.map env.ev)) := by
              rw [← hp.2.1, ← zip_map_pair]
              simp
            simp only [Instr.buildSlice, Sem.run_bind, run_underlying hu, Result.andThen, run_sizeOf hk]
            rw [if_neg (by omega)]
            by_cases h0 : len * k = 0
            · have hz0 : zerosN z.cells len = [] := List.length_eq_zero_iff.1 (by rw [zerosN_length, hc2]; exact h0)
              have hf1 := hfill.1
              rw [hz0, ← hparts] at hf1
              rw [if_pos h0]
              have he0 : ∀ g : Nat → Value, (Array.range (len * k)).map g = (reals ρ []).toArray := by intro g; simp [h0, reals]
              simp only [Sem.run_bind, Result.andThen, Sem.run_pure, he0]
              rw [hf1]
              simp [run_newRow, real, hb, Result.andThen]
            · have hf1 := hfill.1
              rw [← hparts, ← zerosN_real ρ z.cells len (len * k) (by rw [hc2])] at hf1
              rw [if_neg h0]
              simp only [Sem.run_bind, hzv.1, Result.andThen, Sem.run_pure, real_cells]
              rw [hf1]
              simp [run_newRow, real, hb, Result.andThen]
          · simp at hv
      · simp at hc
    · simp at hc
  case makeSlice t l c =>
    simp only [compOp] at hc
    split at hc
    · rename_i e hu
      split at hc
      · rename_i k bts z hk hbt hz
        split at hc
        · simp at hc
        · rename_i hcond
          simp only [bne_iff_ne, ne_eq, Decidable.not_not] at hcond
          obtain ⟨hq, hr⟩ := one_of hc
          simp only [IOp.a.injEq] at hq
          subst hq
          obtain ⟨r, s, rfl, h1, h2⟩ := rands_two hr
          have e1 := rand_real he h1
          have e2 := rand_real he h2
          simp only [List.map_cons, List.map_nil, aI] at hv
          split at hv
          · rename_i lv cv hl hcv
            cases hg : (Nat.ble lv cv && Nat.ble (bts * cv) 140737488355328 && Nat.ble cv 9223372036854775807) with
            | false => simp [hg] at hv
            | true =>
              simp only [hg, cond_true, Option.some.injEq, Prod.mk.injEq] at hv
              obtain ⟨rfl, rfl⟩ := hv
              simp only [Bool.and_eq_true] at hg
              have g1 := Nat.le_of_ble_eq_true hg.1.1
              have g2 := Nat.le_of_ble_eq_true hg.1.2
              have g3 := Nat.le_of_ble_eq_true hg.2
              obtain ⟨k1, hl'⟩ := asNat_int hl
              obtain ⟨k2, hc'⟩ := asNat_int hcv
              have hzv := run_zeroValue (P := P) (w := w) hz ρ D
              have hzd : allD D (zerosN z.cells cv) := by
                rw [allD_iff]
                intro v hv'
                obtain ⟨j, hj⟩ := List.mem_iff_getElem?.1 hv'
                have hjl : j < cv * z.cells.length := by
                  have := (List.getElem?_eq_some_iff.1 hj).1
                  rw [zerosN_length] at this; exact this
                rw [zerosN_get _ _ _ hjl] at hj
                exact (allD_iff D _).1 (cells_inD hzv.2) v (List.mem_of_getElem? hj)
              refine made_row e hzd ?_ (fun b D' hb => by simpa [AV.inD] using hb)
              intro b ρ' hb
              unfold execOp; rw [ho]
              have hinfo : ∃ i, P.info? e = some i ∧ i.bytes = bts := by
                simp only [bytesT, Option.map_eq_some_iff] at hbt
                obtain ⟨i, hi, hb⟩ := hbt
                exact ⟨i, hi, hb⟩
              obtain ⟨i, hi, hib⟩ := hinfo
              simp only [e1.1, e2.1, hl', hc', real]
              simp only [Instr.makeSlice, Sem.run_bind, run_underlying hu, Result.andThen, asInt, asIntOf, Sem.run_pure, run_typeInfo hi, hib, i64_nat g3, i64_nat (Nat.le_trans g1 g3)]
              have hno : ((decide ((cv : Int) < 0) || decide ((bts : Int) * (cv : Int) > 2 ^ 48)) || decide ((lv : Int) < 0) || decide ((lv : Int) > (cv : Int))) = false := by
                have hb2 : (bts : Int) * (cv : Int) = ((bts * cv : Nat) : Int) := by simp
                rw [hb2]
                simp only [Bool.or_eq_false_iff, decide_eq_false_iff_not]
                refine ⟨⟨⟨by omega, ?_⟩, by omega⟩, by omega⟩
                have : ((2 : Int) ^ 48) = 281474976710656 := by decide
                rw [this]; omega
              rw [if_neg (by rw [hno]; simp)]
              simp only [Sem.run_bind, run_askRoom, Result.andThen, Int.toNat_natCast, run_sizeOf hk]
              by_cases h0 : cv * k = 0
              · have hz0 : zerosN z.cells cv = [] := List.length_eq_zero_iff.1 (by rw [zerosN_length, hcond]; exact h0)
                have he0 : ∀ g : Nat → Value, (Array.range (cv * k)).map g = (reals ρ []).toArray := by intro g; simp [h0, reals]
                rw [if_pos h0, hz0]
                simp only [Sem.run_bind, Result.andThen, Sem.run_pure, he0, run_newRow]
                simp [hb]
              · rw [if_neg h0, ← zerosN_real ρ z.cells cv (cv * k) (by rw [hcond])]
                simp only [Sem.run_bind, hzv.1, Result.andThen, Sem.run_pure, real_cells, run_newRow]
                simp [hb]
          · simp at hv
      · simp at hc
    · simp at hc
  case makeMap t r =>
    exfalso
    cases r with
    | none => simp only [compOp] at hc; obtain ⟨hq, _⟩ := one_of hc; simp at hq
    | some r => simp [compOp] at hc
  case unOp u t x =>
    exfalso
    cases u <;> simp only [compOp] at hc <;> first
      | (obtain ⟨_, _, h2⟩ := one_some hc; simp at h2; done)
      | (simp at hc; done)
  all_goals (exfalso; simp only [compOp] at hc)
  all_goals repeat' (first
    | (simp only [Option.bind_eq_some_iff] at hc; obtain ⟨_, _, hc⟩ := hc)
    | (simp only [Option.map_eq_some_iff] at hc; obtain ⟨_, _, hc⟩ := hc; simp at hc; done)
    | (obtain ⟨_, _, h2⟩ := one_some hc; simp at h2; done)
    | (simp at hc; done)
    | (split at hc))
end
end Ads
end Go.Proofs.Ytflmbknimebmnaa
