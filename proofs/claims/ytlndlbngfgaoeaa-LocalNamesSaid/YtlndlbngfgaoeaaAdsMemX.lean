/-
  Operations that make memory, read it, write it.
  Operations that read memory or write it.
  Operations that write memory: store, append, copy.
  Operations that write memory, together.
-/
import Derived.Laws.BytesString
import Derived.Test.YtlndlbngfgaoeaaAdsPureX
set_option linter.unusedSimpArgs false
set_option linter.unusedVariables false
namespace Go.Proofs.Ytlndlbngfgaoeaa
namespace Ads
section
variable {P : Program} {H0 : Nat} {ρ : Rho} {D : Dom} {h : Heap} {w : World} {n : Nat} {env : Env} {a : Act}

theorem one_of {q op : IOp} {xs : List Operand} {rs : List Rand} (h : one q xs = some (op, rs)) : q = op ∧ randsOf xs = some rs := by
 obtain ⟨rs', h1, h2⟩ := one_some h
 simp only [Prod.mk.injEq] at h2
 exact ⟨h2.1.symm, by rw [h2.2]; exact h1⟩

theorem i64_nat {k : Nat} (h : k ≤ 9223372036854775807) : IntKind.i64.wrap (k : Int) = k := IntWalk.i64_in _ (by omega)

theorem zerosN_length (z : List AV) : ∀ k, (zerosN z k).length = k * z.length
 | 0 => by simp [zerosN]
 | k + 1 => by simp [zerosN, zerosN_length z k, Nat.succ_mul]; omega

theorem zerosN_get (z : List AV) : ∀ (k i : Nat), i < k * z.length → (zerosN z k)[i]? = z[i % z.length]?
 | 0, i, h => by simp at h
 | k + 1, i, h => by
  simp only [zerosN]
  by_cases hi : i < z.length
  ·rw [List.getElem?_append_left hi, Nat.mod_eq_of_lt hi]
  ·rw [List.getElem?_append_right (by omega), zerosN_get z k _ (by rw [Nat.succ_mul] at h; omega)]
   congr 1
   rw [Nat.mod_eq_sub_mod (by omega : i ≥ z.length)]

theorem zerosN_real (ρ : Rho) (z : List AV) (k m : Nat) (hm : m = k * z.length) : (Array.range m).map (fun i => (reals ρ z).toArray[i % (reals ρ z).toArray.size]!) = (reals ρ (zerosN z k)).toArray := by
 subst hm
 apply Array.ext_getElem?
 intro i
 rw [Array.getElem?_map, show (reals ρ (zerosN z k)).toArray[i]? = (reals ρ (zerosN z k))[i]? from List.getElem?_toArray, reals_get]
 by_cases hi : i < k * z.length
 ·have hz : 0 < z.length := by
   rcases Nat.eq_zero_or_pos z.length with e | e
   ·rw [e] at hi; simp at hi
   ·exact e
  have hlt : i % z.length < z.length := Nat.mod_lt _ hz
  rw [zerosN_get z k i hi]
  have hr : (Array.range (k * z.length))[i]? = some i := by simp [hi]
  rw [hr]
  simp only [Option.map_some, List.size_toArray, reals_length]
  rw [List.getElem?_eq_getElem hlt]
  simp only [Option.map_some, Option.some.injEq]
  have h2 : (reals ρ z)[i % z.length]? = some (real ρ z[i % z.length]) := by rw [reals_get, List.getElem?_eq_getElem hlt]; rfl
  rw [List.getElem!_toArray, List.getElem!_eq_getElem?_getD, h2]
  rfl
 ·rw [List.getElem?_eq_none (by rw [zerosN_length]; omega)]
  have hr : (Array.range (k * z.length))[i]? = none := by simp; omega
  rw [hr]; rfl

theorem alloc_new (w : World) (o : Obj) : (w.alloc o).heap[w.heap.size]? = some o := by
 show (w.heap.push o)[w.heap.size]? = some o
 simp

theorem blk_row {ρ' : Rho} {D' : Dom} {cs : List AV} (hd : allD D' cs) (t : TypeId) (hlow : H0 ≤ w.heap.size) :
  blkReal P H0 ρ' D' ⟨w.heap.size, 0, 0⟩ (.cells cs true 0) (w.alloc (.cells (reals ρ' cs).toArray t)) := by
 refine ⟨(reals ρ' cs).toArray, t, (0, 0), alloc_new _ _, ?_, fun _ => ⟨hlow, by simp [reals_length], fun i h1 h2 => by simp at h2⟩⟩
 intro i v hv
 refine ⟨?_, (allD_iff D' cs).1 hd v (List.mem_of_getElem? hv)⟩
 simp [reals_get, hv]

def Made (P : Program) (H0 : Nat) (ρ : Rho) (D : Dom) (w : World) (s : Sem Next) (x : Blk) (f : Nat → AV) : Prop :=
 ∃ obj : Obj, (∀ (b : Nat) (ρ' : Rho), ρ' b = ⟨w.heap.size, 0, 0⟩ → s.run P w = .ok (.value (real ρ' (f b))) (w.alloc obj)) ∧
  (∀ (ρ' : Rho) (D' : Dom), (∀ b, D b → D' b) → (∀ b, D b → ρ' b = ρ b) → H0 ≤ w.heap.size → blkReal P H0 ρ' D' ⟨w.heap.size, 0, 0⟩ x (w.alloc obj)) ∧
  (∀ (b : Nat) (D' : Dom), D' b → (f b).inD D')

theorem made_row {s : Sem Next} {cs : List AV} {f : Nat → AV} (t : TypeId) (hd : allD D cs)
  (hs : ∀ (b : Nat) (ρ' : Rho), ρ' b = ⟨w.heap.size, 0, 0⟩ → s.run P w = .ok (.value (real ρ' (f b))) (w.alloc (.cells (reals ρ cs).toArray t)))
  (hf : ∀ (b : Nat) (D' : Dom), D' b → (f b).inD D') : Made P H0 ρ D w s (.cells cs true 0) f := by
 refine ⟨_, hs, ?_, hf⟩
 intro ρ' D' h1 h2 hl
 rw [← reals_agree h2 cs hd]
 exact blk_row (allD_mono h1 cs hd) t hl

theorem run_newRow (t : TypeId) (c : Array Value) : (newRow t c).run P w = .ok ⟨w.heap.size, 0, none⟩ (w.alloc (.cells c t)) := by
 simp [newRow, Result.andThen]

theorem aI_sound {o : Oper} {op : AOp} {rs : List Rand} {x : Blk} {f : Nat → AV} (he : EInv ρ D n env a) (hc : compOp P o.op = some (.a op, rs)) (hv : aI op (rs.map env.ev) = some (x, f)) :
  Made P H0 ρ D w (execOp a.eval o) x f := by
 cases ho : o.op <;> rw [ho] at hc
 case alloc t =>
  simp only [compOp, Option.bind_eq_some_iff] at hc
  obtain ⟨z, hz, hc⟩ := hc
  obtain ⟨hq, hr⟩ := one_of hc
  simp only [IOp.a.injEq] at hq
  subst hq
  simp [randsOf] at hr
  subst hr
  simp only [List.map_nil, aI, Option.some.injEq, Prod.mk.injEq] at hv
  obtain ⟨rfl, rfl⟩ := hv
  have hzv := run_zeroValue (P := P) (w := w) hz ρ D
  refine made_row t (cells_inD hzv.2) ?_ (fun b D' hb => by simpa [AV.inD] using hb)
  intro b ρ' hb
  unfold execOp; rw [ho]
  simp only [Instr.alloc, newVar, Sem.run_bind, hzv.1, Result.andThen, run_newRow, Sem.run_pure, real, hb, real_cells]
 case box t y =>
  simp only [compOp] at hc
  obtain ⟨hq, hr⟩ := one_of hc
  simp only [IOp.a.injEq] at hq
  subst hq
  obtain ⟨r, rfl, h1⟩ := rands_one hr
  have e1 := rand_real he h1
  simp only [List.map_cons, List.map_nil, aI, Option.some.injEq, Prod.mk.injEq] at hv
  obtain ⟨rfl, rfl⟩ := hv
  refine made_row t (cells_inD e1.2) ?_ (fun b D' hb => by simpa [AV.inD] using hb)
  intro b ρ' hb
  unfold execOp; rw [ho]
  simp only [Instr.box, newVar, Sem.run_bind, Result.andThen, run_newRow, Sem.run_pure, real, hb, e1.1, real_cells]
 case buildSlice t len ps =>
  simp only [compOp] at hc
  split at hc
  ·rename_i e hu
   split at hc
   ·rename_i k z hk hz
    split at hc
    ·simp at hc
    ·rename_i hcond
     simp only [Option.map_eq_some_iff] at hc
     obtain ⟨⟨pls, as⟩, hps, hq⟩ := hc
     simp only [Prod.mk.injEq, IOp.a.injEq] at hq
     obtain ⟨rfl, rfl⟩ := hq
     simp only [Bool.or_eq_true, decide_eq_true_eq, bne_iff_ne, ne_eq, not_or, Decidable.not_not] at hcond
     obtain ⟨hc1, hc2⟩ := hcond
     have hp := parts_inv he hps
     simp only [aI] at hv
     split at hv
     ·rename_i cs hf
      simp only [Option.some.injEq, Prod.mk.injEq] at hv
      obtain ⟨rfl, rfl⟩ := hv
      have hzv := run_zeroValue (P := P) (w := w) hz ρ D
      have hzd : allD D (zerosN z.cells len) := by
       rw [allD_iff]
       intro v hv'
       obtain ⟨j, hj⟩ := List.mem_iff_getElem?.1 hv'
       have hjl : j < len * z.cells.length := by
        have := (List.getElem?_eq_some_iff.1 hj).1
        rw [zerosN_length] at this; exact this
       rw [zerosN_get _ _ _ hjl] at hj
       exact (allD_iff D _).1 (cells_inD hzv.2) v (List.mem_of_getElem? hj)
      have hpl : (ps.toList.map (·.1)) = pls.map (·.1) := by
       have := hp.1
       have h2 : (ps.toList.map (·.1)).map (fun i => (some (i, 0) : Option (Nat × Nat))) = pls.map some := this
       have h3 := congrArg (List.map (fun o : Option (Nat × Nat) => (o.getD (0, 0)).1)) h2
       simpa [Function.comp_def] using h3
      have hfill := fill_real (ρ := ρ) (D := D) (pl := fun i => some (i * k, k)) (idx := ps.toList.map (·.1)) (by
       rw [hpl]; simp [Function.comp_def]) hf hp.2.2 hzd
      refine made_row e hfill.2.1 ?_ (fun b D' hb => by simpa [AV.inD] using hb)
      intro b ρ' hb
      unfold execOp; rw [ho]
      have hparts : (ps.map fun (i, x) => (i, a.eval x)).toList = (ps.toList.map (·.1)).zip (reals ρ (as.map env.ev)) := by
       rw [← hp.2.1, ← zip_map_pair]
       simp
      simp only [Instr.buildSlice, Sem.run_bind, run_underlying hu, Result.andThen, run_sizeOf hk]
      rw [if_neg (by omega)]
      by_cases h0 : len * k = 0
      ·have hz0 : zerosN z.cells len = [] := List.length_eq_zero_iff.1 (by rw [zerosN_length, hc2]; exact h0)
       have hf1 := hfill.1
       rw [hz0, ← hparts] at hf1
       rw [if_pos h0]
       have he0 : ∀ g : Nat → Value, (Array.range (len * k)).map g = (reals ρ []).toArray := by intro g; simp [h0, reals]
       simp only [Sem.run_bind, Result.andThen, Sem.run_pure, he0]
       rw [hf1]
       simp [run_newRow, real, hb, Result.andThen]
      ·have hf1 := hfill.1
       rw [← hparts, ← zerosN_real ρ z.cells len (len * k) (by rw [hc2])] at hf1
       rw [if_neg h0]
       simp only [Sem.run_bind, hzv.1, Result.andThen, Sem.run_pure, real_cells]
       rw [hf1]
       simp [run_newRow, real, hb, Result.andThen]
     ·simp at hv
   ·simp at hc
  ·simp at hc
 case makeSlice t l c =>
  simp only [compOp] at hc
  split at hc
  ·rename_i e hu
   split at hc
   ·rename_i k bts z hk hbt hz
    split at hc
    ·simp at hc
    ·rename_i hcond
     simp only [bne_iff_ne, ne_eq, Decidable.not_not] at hcond
     obtain ⟨hq, hr⟩ := one_of hc
     simp only [IOp.a.injEq] at hq
     subst hq
     obtain ⟨r, s, rfl, h1, h2⟩ := rands_two hr
     have e1 := rand_real he h1
     have e2 := rand_real he h2
     simp only [List.map_cons, List.map_nil, aI] at hv
     split at hv
     ·rename_i lv cv hl hcv
      cases hg : (Nat.ble lv cv && Nat.ble (bts * cv) 140737488355328 && Nat.ble cv 9223372036854775807) with
      | false => simp [hg] at hv
      | true =>
       simp only [hg, cond_true, Option.some.injEq, Prod.mk.injEq] at hv
       obtain ⟨rfl, rfl⟩ := hv
       simp only [Bool.and_eq_true] at hg
       have g1 := Nat.le_of_ble_eq_true hg.1.1
       have g2 := Nat.le_of_ble_eq_true hg.1.2
       have g3 := Nat.le_of_ble_eq_true hg.2
       obtain ⟨k1, hl'⟩ := asNat_int hl
       obtain ⟨k2, hc'⟩ := asNat_int hcv
       have hzv := run_zeroValue (P := P) (w := w) hz ρ D
       have hzd : allD D (zerosN z.cells cv) := by
        rw [allD_iff]
        intro v hv'
        obtain ⟨j, hj⟩ := List.mem_iff_getElem?.1 hv'
        have hjl : j < cv * z.cells.length := by
         have := (List.getElem?_eq_some_iff.1 hj).1
         rw [zerosN_length] at this; exact this
        rw [zerosN_get _ _ _ hjl] at hj
        exact (allD_iff D _).1 (cells_inD hzv.2) v (List.mem_of_getElem? hj)
       refine made_row e hzd ?_ (fun b D' hb => by simpa [AV.inD] using hb)
       intro b ρ' hb
       unfold execOp; rw [ho]
       have hinfo : ∃ i, P.info? e = some i ∧ i.bytes = bts := by
        simp only [bytesT, Option.map_eq_some_iff] at hbt
        obtain ⟨i, hi, hb⟩ := hbt
        exact ⟨i, hi, hb⟩
       obtain ⟨i, hi, hib⟩ := hinfo
       simp only [e1.1, e2.1, hl', hc', real]
       simp only [Instr.makeSlice, Sem.run_bind, run_underlying hu, Result.andThen, asInt, asIntOf, Sem.run_pure, run_typeInfo hi, hib, i64_nat g3, i64_nat (Nat.le_trans g1 g3)]
       have hno : ((decide ((cv : Int) < 0) || decide ((bts : Int) * (cv : Int) > 2 ^ 48)) || decide ((lv : Int) < 0) || decide ((lv : Int) > (cv : Int))) = false := by
        have hb2 : (bts : Int) * (cv : Int) = ((bts * cv : Nat) : Int) := by simp
        rw [hb2]
        simp only [Bool.or_eq_false_iff, decide_eq_false_iff_not]
        refine ⟨⟨⟨by omega, ?_⟩, by omega⟩, by omega⟩
        have : ((2 : Int) ^ 48) = 281474976710656 := by decide
        rw [this]; omega
       rw [if_neg (by rw [hno]; simp)]
       simp only [Sem.run_bind, run_askRoom, Result.andThen, Int.toNat_natCast, run_sizeOf hk]
       by_cases h0 : cv * k = 0
       ·have hz0 : zerosN z.cells cv = [] := List.length_eq_zero_iff.1 (by rw [zerosN_length, hcond]; exact h0)
        have he0 : ∀ g : Nat → Value, (Array.range (cv * k)).map g = (reals ρ []).toArray := by intro g; simp [h0, reals]
        rw [if_pos h0, hz0]
        simp only [Sem.run_bind, Result.andThen, Sem.run_pure, he0, run_newRow]
        simp [hb]
       ·rw [if_neg h0, ← zerosN_real ρ z.cells cv (cv * k) (by rw [hcond])]
        simp only [Sem.run_bind, hzv.1, Result.andThen, Sem.run_pure, real_cells, run_newRow]
        simp [hb]
     ·simp at hv
   ·simp at hc
  ·simp at hc
 case next it s =>
  exfalso
  cases s with
  | true => simp [compOp] at hc
  | false => simp only [compOp] at hc; obtain ⟨hq, _⟩ := one_of hc; simp at hq
 case makeMap t r =>
  cases r with
  | some r => simp [compOp] at hc
  | none =>
   simp only [compOp] at hc
   obtain ⟨hq, hr⟩ := one_of hc
   simp only [IOp.a.injEq] at hq
   subst hq
   simp [randsOf] at hr
   subst hr
   simp only [List.map_nil, aI, Option.some.injEq, Prod.mk.injEq] at hv
   obtain ⟨rfl, rfl⟩ := hv
   refine ⟨.map #[] 0, ?_, ?_, fun b D' hb => by simpa [AV.inD] using hb⟩
   ·intro b ρ' hb
    unfold execOp; rw [ho]
    simp [Instr.makeMap, real, hb, Result.andThen]
   ·intro ρ' D' _ _ hl
    exact ⟨#[], 0, alloc_new _ _, hl, rfl, fun p hp => by simp at hp, rfl, rfl⟩
 case unOp u t x =>
  exfalso
  cases u <;> simp only [compOp] at hc <;> first
   | (obtain ⟨_, _, h2⟩ := one_some hc; simp at h2; done)
   | (simp at hc; done)
 all_goals (exfalso; simp only [compOp] at hc)
 all_goals repeat' (first
  | (simp only [Option.bind_eq_some_iff] at hc; obtain ⟨_, _, hc⟩ := hc)
  | (simp only [Option.map_eq_some_iff] at hc; obtain ⟨_, _, hc⟩ := hc; simp at hc; done)
  | (obtain ⟨_, _, h2⟩ := one_some hc; simp at h2; done)
  | (simp at hc; done)
  | (split at hc))
end
end Ads
end Go.Proofs.Ytlndlbngfgaoeaa

set_option linter.unusedSimpArgs false
set_option linter.unusedVariables false
namespace Go.Proofs.Ytlndlbngfgaoeaa
namespace Ads
section
variable {P : Program} {H0 : Nat} {ρ : Rho} {D : Dom} {h h' : Heap} {w : World} {n : Nat} {env : Env} {a : Act}

theorem run_ck {t : TypeId} {kk : IntKind} (hu : P.underlying t = some (.int kk)) (e : Bool) (n : Nat) (v : Value) : (Instr.checkKey e (n + 1) t v).run P w = .ok () w := by
 unfold Instr.checkKey
 rw [Sem.run_bind, run_underlying hu]
 simp only [Result.andThen]
 cases v <;> simp
theorem key_eq {k x : AV} (he : eqScalar k x = some true) : k = x := by
 unfold eqScalar at he
 split at he
 ·rename_i k1 a k2 b
  cases hk : decide (k1 = k2) with
  | false => simp [hk] at he
  | true =>
   simp only [hk, cond_true, Option.some.injEq, beq_iff_eq] at he
   rw [of_decide_eq_true hk, he]
 ·simp at he
theorem same_now {k x : AV} {c : Bool} {kk : IntKind} (he : eqScalar k x = some c) : Instr.sameNow (.int kk) (real ρ k) (real ρ x) = some c := by
 unfold eqScalar at he
 split at he
 ·rename_i k1 a k2 b
  cases hk : decide (k1 = k2) with
  | false => simp [hk] at he
  | true =>
   simp only [hk, cond_true, Option.some.injEq] at he
   simp only [real, Instr.sameNow]
   rw [if_pos (of_decide_eq_true hk), he]
 ·simp at he
theorem key_int {k x : AV} {c : Bool} (he : eqScalar k x = some c) : ∃ kd n, k = .int kd n := by
 unfold eqScalar at he
 split at he
 ·exact ⟨_, _, rfl⟩
 ·simp at he
theorem findNow_real {kk : IntKind} {k v : AV} : ∀ (es : List (AV × AV)) (ms : List MapEntry) (i : Nat) {r : Option AV}, ms.map (fun m => (m.key, m.val)) = es.map (fun p => (real ρ p.1, real ρ p.2)) → findKey k es = some r →
  match r with
  | none => Instr.findNow (.int kk) (real ρ k) ms i = some none ∧ putKey k v es = es ++ [(k, v)]
  | some u => ∃ j, Instr.findNow (.int kk) (real ρ k) ms i = some (some (i + j, real ρ u)) ∧ (ms[j]?).map (·.key) = some (real ρ k) ∧ (∃ p, p ∈ es ∧ p.2 = u) ∧ (∃ kd n, k = .int kd n) ∧
    (ms.modify j fun e => { e with key := real ρ k, val := real ρ v }).map (fun m => (m.key, m.val)) = (putKey k v es).map fun p => (real ρ p.1, real ρ p.2)
 | [], ms, i, r, hm, hf => by
  simp only [findKey, Option.some.injEq] at hf
  subst hf
  have : ms = [] := by simpa using hm
  subst this
  exact ⟨rfl, rfl⟩
 | (x, u) :: es, ms, i, r, hm, hf => by
  cases ms with
  | nil => simp at hm
  | cons m ms =>
   simp only [List.map_cons, List.cons.injEq, Prod.mk.injEq] at hm
   obtain ⟨⟨h1, h2⟩, h3⟩ := hm
   simp only [findKey] at hf
   split at hf
   ·rename_i he
    simp only [Option.some.injEq] at hf
    subst hf
    have hkx := key_eq he
    have hs := same_now (ρ := ρ) (kk := kk) he
    refine ⟨0, ?_, ?_, ⟨_, List.mem_cons_self, rfl⟩, key_int he, ?_⟩
    ·simp only [Instr.findNow, h1, hs, h2, Nat.add_zero]
    ·simp [h1, hkx]
    ·simp only [putKey, he, List.map_cons, h3.symm, List.modify_zero_cons]
   ·rename_i he
    have hs := same_now (ρ := ρ) (kk := kk) he
    have ih := findNow_real (kk := kk) (v := v) es ms (i + 1) h3 hf
    cases r with
    | none =>
     simp only at ih ⊢
     refine ⟨by simp only [Instr.findNow, h1, hs]; exact ih.1, ?_⟩
     simp only [putKey, he, ih.2, List.cons_append]
    | some u' =>
     simp only at ih ⊢
     obtain ⟨j, i1, i2, ⟨p, hp, hpu⟩, i4, i3⟩ := ih
     refine ⟨j + 1, ?_, ?_, ⟨p, List.mem_cons_of_mem _ hp, hpu⟩, i4, ?_⟩
     ·simp only [Instr.findNow, h1, hs]
      rw [i1]
      congr 3
      omega
     ·simpa using i2
     ·simp only [putKey, he, List.map_cons, ← i3, List.modify_succ_cons, h1, h2]
   ·simp at hf
theorem run_findKey {t : TypeId} {kk : IntKind} {K : Value} {ms : List MapEntry} {q : Option (Nat × Value)} (hu : P.underlying t = some (.int kk)) (hf : Instr.findNow (.int kk) K ms 0 = some q) : (Instr.findKey t K ms).run P w = .ok q w := by
 unfold Instr.findKey
 rw [Sem.run_bind, run_underlying hu]
 simp only [Result.andThen, hf, Sem.run_pure]

theorem entry_real {st : Nat} {v : AV} : ∀ (es : List (AV × AV)) (bs : List Nat) (ms : List MapEntry), ms.map (fun m => (m.key, m.val)) = es.map (fun p => (real ρ p.1, real ρ p.2)) → ms.map (fun m => m.born) = bs →
  (∀ p ∈ es, p.1.inD D ∧ p.2.inD D) → entryAt st bs es = some v → ∃ k u, v = .tup [k, u] ∧ ∃ e : MapEntry, ms.find? (fun x => x.born == st) = some e ∧ real ρ k = e.key ∧ real ρ u = e.val ∧ k.inD D ∧ u.inD D
 | [], bs, ms, hm, hb, hd, hv => by cases bs <;> simp [entryAt] at hv
 | (k, u) :: es, [], ms, hm, hb, hd, hv => by simp [entryAt] at hv
 | (k, u) :: es, b :: bs, [], hm, hb, hd, hv => by simp at hm
 | (k, u) :: es, b :: bs, m :: ms, hm, hb, hd, hv => by
  simp only [List.map_cons, List.cons.injEq, Prod.mk.injEq] at hm hb
  simp only [entryAt] at hv
  cases hbs : Nat.beq b st with
  | true =>
   simp only [hbs, cond_true, Option.some.injEq] at hv
   have := Nat.eq_of_beq_eq_true hbs
   exact ⟨k, u, hv.symm, m, by simp [List.find?_cons, hb.1, this], hm.1.1.symm, hm.1.2.symm, (hd _ List.mem_cons_self).1, (hd _ List.mem_cons_self).2⟩
  | false =>
   simp only [hbs, cond_false] at hv
   obtain ⟨k', u', rfl, e, h1, h2⟩ := entry_real es bs ms hm.2 hb.2 (fun p hp => hd p (List.mem_cons_of_mem _ hp)) hv
   have hne : (m.born == st) = false := by
    rw [hb.1]
    cases hx : (b == st) with
    | false => rfl
    | true => rw [beq_iff_eq.1 hx, Nat.beq_refl] at hbs; simp at hbs
   exact ⟨k', u', rfl, e, by rw [List.find?_cons, hne]; exact h1, h2⟩

theorem strBytes_ints : ∀ {cs : List AV} {s : List UInt8}, strBytes cs = some s → ∃ ns : List Int, reals ρ cs = ns.map (Value.int .u8) ∧ ns.foldl (fun (r : ByteArray) n => r.push (UInt8.ofNat n.toNat)) ByteArray.empty = ⟨s.toArray⟩ := by
 have key : ∀ (cs : List AV) (s : List UInt8), strBytes cs = some s → ∃ ns : List Int, reals ρ cs = ns.map (Value.int .u8) ∧ ∀ l : List UInt8, ns.foldl (fun (r : ByteArray) n => r.push (UInt8.ofNat n.toNat)) ⟨l.toArray⟩ = ⟨(l ++ s).toArray⟩ := by
  intro cs
  induction cs with
  | nil =>
   intro s hs
   simp only [strBytes, Option.some.injEq] at hs
   subst hs
   exact ⟨[], by simp [reals], fun l => by simp⟩
  | cons c cs ih =>
   intro s hs
   cases c with
   | int k m =>
    cases k <;> simp only [strBytes, Option.map_eq_some_iff] at hs <;> try (simp at hs; done)
    obtain ⟨s', h1, rfl⟩ := hs
    obtain ⟨ns, g1, g2⟩ := ih s' h1
    refine ⟨m :: ns, by simp [reals, real, g1], fun l => ?_⟩
    simp only [List.foldl_cons]
    have : (ByteArray.push ⟨l.toArray⟩ (UInt8.ofNat m.toNat)) = ⟨(l ++ [UInt8.ofNat m.toNat]).toArray⟩ := by
     simp [ByteArray.push]
    rw [this, g2]
    simp
   | _ => simp [strBytes] at hs
 intro cs s hs
 obtain ⟨ns, g1, g2⟩ := key cs s hs
 exact ⟨ns, g1, g2 []⟩

theorem rI_sound {o : Oper} {op : ROp} {rs : List Rand} {v : AV} (he : EInv ρ D n env a) (i : Inv P H0 ρ D h w) (hc : compOp P o.op = some (.r op, rs)) (hv : rI op (rs.map env.ev) h = some v) :
  Val P ρ D w (execOp a.eval o) v := by
 cases ho : o.op <;> rw [ho] at hc
 case load t x =>
  simp only [compOp] at hc
  split at hc
  ·rename_i k hg hk
   obtain ⟨hq, hr⟩ := one_of hc
   simp only [IOp.r.injEq] at hq
   subst hq
   obtain ⟨r, rfl, h1⟩ := rands_one hr
   have e1 := rand_real he h1
   simp only [List.map_cons, List.map_nil] at hv
   cases hx : env.ev r with
   | ptr b o' =>
    rw [hx] at hv e1
    simp only [AV.inD] at e1
    simp only [rI, Option.map_eq_some_iff] at hv
    obtain ⟨cs, hl, rfl⟩ := hv
    have hrun := run_loadCells_real (P := P) i e1.2 hl
    unfold execOp; rw [ho]
    refine val_of ?_ (by simp only [AV.inD]; exact hrun.2)
    simp only [Instr.loadAt, e1.1, real, Instr.sureAddr, Sem.run_bind, Sem.run_pure, Result.andThen, loadVar, run_isAgg hg, if_true, run_sizeOf hk, hrun.1]
   | _ => rw [hx] at hv; simp [rI] at hv
  ·rename_i k hg hk
   obtain ⟨hq, hr⟩ := one_of hc
   simp only [IOp.r.injEq] at hq
   subst hq
   obtain ⟨r, rfl, h1⟩ := rands_one hr
   have e1 := rand_real he h1
   simp only [List.map_cons, List.map_nil] at hv
   cases hx : env.ev r with
   | ptr b o' =>
    rw [hx] at hv e1
    simp only [AV.inD] at e1
    simp only [rI] at hv
    have hcl := cell_of i e1.2 hv
    unfold execOp; rw [ho]
    refine val_of ?_ hcl.2
    simp only [Instr.loadAt, e1.1, real, Instr.sureAddr, Sem.run_bind, Sem.run_pure, Result.andThen, loadVar, run_isAgg hg, Bool.false_eq_true, if_false]
    rw [run_load, hcl.1]
   | _ => rw [hx] at hv; simp [rI] at hv
  ·simp at hc
 case convert src dst x =>
  simp only [compOp] at hc
  split at hc
  ·exfalso; obtain ⟨hq, _⟩ := one_of hc; simp at hq
  ·exfalso; obtain ⟨hq, _⟩ := one_of hc; simp at hq
  ·exfalso
   split at hc
   ·obtain ⟨hq, _⟩ := one_of hc; simp at hq
   ·simp at hc
  ·rename_i e hs hd
   split at hc
   ·rename_i he8
    obtain ⟨hq, hr⟩ := one_of hc
    simp only [IOp.r.injEq] at hq
    subst hq
    obtain ⟨r, rfl, h1⟩ := rands_one hr
    have e1 := rand_real he h1
    simp only [List.map_cons, List.map_nil] at hv
    unfold execOp; rw [ho]
    simp only [e1.1]
    cases hx : env.ev r with
    | nils =>
     rw [hx] at hv
     cases hv
     refine val_of ?_ (by simp [AV.inD])
     show (convert src dst (.slice none 0 0)).run P w = _
     rw [run_convert_bytes_string w src dst e none 0 0 hs he8 hd]
     rfl
    | wild wa =>
     rw [hx] at hv
     cases hv
     refine val_of ?_ (by simp [AV.inD])
     simp only [real]
     rw [run_convert_bytes_string w src dst e _ _ _ hs he8 hd, run_bytesToString w _ 0 _ [] (by simp [loadCells, loadCellsFrom])]
     rfl
    | rest b o j =>
     rw [hx] at hv
     cases hv
     refine val_of ?_ (by simp [AV.inD])
     simp only [real]
     rw [run_convert_bytes_string w src dst e _ _ _ hs he8 hd, run_bytesToString w _ 0 _ [] (by simp [loadCells, loadCellsFrom])]
     rfl
    | sl b o len cap opn =>
     rw [hx] at hv e1
     simp only [AV.inD] at e1
     simp only [rI] at hv
     split at hv
     ·rename_i cs hl
      simp only [Option.map_eq_some_iff] at hv
      obtain ⟨s, hsb, rfl⟩ := hv
      have hrun := run_loadCells_real (P := P) i e1.2 hl
      obtain ⟨ns, hns, hss⟩ := strBytes_ints (ρ := ρ) hsb
      rw [hns] at hrun
      refine val_of ?_ (by simp [AV.inD])
      simp only [real]
      rw [run_convert_bytes_string w src dst e _ _ _ hs he8 hd, run_bytesToString w _ len _ ns hrun.1, hss]
     ·simp at hv
    | _ => rw [hx] at hv; simp [rI] at hv
   ·simp at hc
  ·simp at hc
 case unOp u t x =>
  exfalso
  cases u <;> simp only [compOp] at hc <;> first
   | (obtain ⟨_, _, h2⟩ := one_some hc; simp at h2; done)
   | (simp at hc; done)
 case lookup t m k ok =>
  simp only [compOp] at hc
  split at hc
  ·rename_i kt e hu
   split at hc
   ·rename_i kk hk
    simp only [Option.bind_eq_some_iff] at hc
    obtain ⟨z, hz, hc⟩ := hc
    obtain ⟨hq, hr⟩ := one_of hc
    simp only [IOp.r.injEq] at hq
    subst hq
    obtain ⟨r, q, rfl, h1, h2⟩ := rands_two hr
    have e1 := rand_real he h1
    have e2 := rand_real he h2
    have hzv := run_zeroValue (P := P) (w := w) hz ρ D
    simp only [List.map_cons, List.map_nil] at hv
    unfold execOp; rw [ho]
    simp only [e1.1, e2.1]
    cases hr' : env.ev r with
    | map b =>
     rw [hr'] at hv e1
     simp only [AV.inD] at e1
     simp only [rI] at hv
     split at hv
     ·rename_i es bs c hg
      obtain ⟨ms, clock, hcell, hlow, hms, hdom, -⟩ := i.blk b _ e1.2 hg
      have hget : (getObj (ρ b).blk).run P w = .ok (.map ms clock) w := by simp [getObj, Sem.run, hcell]
      split at hv
      ·rename_i u hf
       simp only [Option.some.injEq] at hv
       subst hv
       obtain ⟨j, f1, -, ⟨p, hp, hpu⟩, -, -⟩ := findNow_real (ρ := ρ) (kk := kk) (v := .undef) es ms.toList 0 hms hf
       have hud : u.inD D := hpu ▸ (hdom p hp).2
       refine val_of ?_ (by cases ok <;> simp [AV.inD, allD, hud])
       simp only [Instr.lookup, real, Sem.run_bind, run_underlying hu, Result.andThen, hget, run_ck hk, run_findKey hk f1, Sem.run_pure]
       cases ok <;> simp [real, reals]
      ·rename_i hf
       simp only [Option.some.injEq] at hv
       subst hv
       obtain ⟨f1, -⟩ := findNow_real (ρ := ρ) (kk := kk) (v := .undef) es ms.toList 0 hms hf
       refine val_of ?_ (by cases ok <;> simp [AV.inD, allD, hzv.2])
       simp only [Instr.lookup, real, Sem.run_bind, run_underlying hu, Result.andThen, hget, run_ck hk, run_findKey hk f1, Sem.run_pure, hzv.1]
       cases ok <;> simp [real, reals]
      ·simp at hv
     ·simp at hv
    | nilm =>
     rw [hr'] at hv e1
     simp only [rI, Option.some.injEq] at hv
     subst hv
     refine val_of ?_ (by cases ok <;> simp [AV.inD, allD, hzv.2])
     simp only [Instr.lookup, real, Sem.run_bind, run_underlying hu, Result.andThen, run_ck hk, run_findKey hk (ms := []) rfl, Sem.run_pure, hzv.1]
     cases ok <;> simp [real, reals]
    | _ => rw [hr'] at hv; simp [rI] at hv
   ·exfalso; obtain ⟨hq, _⟩ := one_of hc; simp at hq
   ·exfalso; obtain ⟨hq, _⟩ := one_of hc; simp at hq
   ·simp at hc
  ·simp at hc
 case entry it =>
  simp only [compOp] at hc
  obtain ⟨hq, hr⟩ := one_of hc
  simp only [IOp.r.injEq] at hq
  subst hq
  obtain ⟨r, rfl, h1⟩ := rands_one hr
  have e1 := rand_real he h1
  simp only [List.map_cons, List.map_nil] at hv
  have hx : ∃ it', env.ev r = .ptr it' 0 := by
   cases hx : env.ev r with
   | ptr it' oo => cases oo with
    | zero => exact ⟨it', rfl⟩
    | succ oo => rw [hx] at hv; simp [rI] at hv
   | _ => rw [hx] at hv; simp [rI] at hv
  obtain ⟨it', hx⟩ := hx
  rw [hx] at e1 hv
  simp only [AV.inD] at e1
  simp only [rI] at hv
  split at hv
  ·rename_i m since seen last hg
   split at hv
   ·rename_i st es bs c hst hm
    cases hb : Nat.beq c last with
    | false => simp [hb] at hv
    | true =>
     simp only [hb, cond_true] at hv
     have hcl := Nat.eq_of_beq_eq_true hb
     obtain ⟨_, hdm, ho0, sn, hcell, hsn⟩ := i.blk it' _ e1.2 hg
     obtain ⟨ms, clock, hcell2, _, hms, hdom, hck, hbn⟩ := i.blk m _ hdm hm
     obtain ⟨k, u, rfl, e, hf, hk1, hk2, hd1, hd2⟩ := entry_real (ρ := ρ) (D := D) es bs ms.toList hms hbn hdom hv
     have hback : sn.back? = some st := by rw [← Array.getLast?_toList, hsn]; exact hst
     unfold execOp; rw [ho]
     refine val_of ?_ (by simp [AV.inD, allD, hd1, hd2])
     have hf2 : ms.find? (fun x => x.born == st) = some e := by rw [← Array.find?_toList]; exact hf
     simp only [e1.1, real, Nat.add_zero, Instr.entry, Sem.run_bind, getObj, Sem.run, ho0, hcell, Result.andThen, hback, hcell2, hck, hcl, bne_self_eq_false, Bool.false_eq_true, if_false, hf2, hk1, hk2, reals]
     rfl
   ·simp at hv
  ·simp at hv
 case next it s =>
  exfalso
  cases s with
  | true => simp [compOp] at hc
  | false => simp only [compOp] at hc; obtain ⟨hq, _⟩ := one_of hc; simp at hq
 case makeMap t r =>
  exfalso
  cases r with
  | none => simp only [compOp] at hc; obtain ⟨hq, _⟩ := one_of hc; simp at hq
  | some r => simp [compOp] at hc
 all_goals (exfalso; simp only [compOp] at hc)
 all_goals repeat' (first
  | (simp only [Option.bind_eq_some_iff] at hc; obtain ⟨_, _, hc⟩ := hc)
  | (simp only [Option.map_eq_some_iff] at hc; obtain ⟨_, _, hc⟩ := hc; simp at hc; done)
  | (obtain ⟨_, _, h2⟩ := one_some hc; simp at h2; done)
  | (simp at hc; done)
  | (split at hc))

theorem load1_mono (hm : ∀ b x, h.get b = some x → h'.get b = some x) {b o : Nat} {v : AV} (hl : h.load1 b o = some v) : h'.load1 b o = some v := by
 unfold Heap.load1 Heap.row at hl ⊢
 cases hg : h.get b with
 | none => simp [hg] at hl
 | some x => rw [hm b x hg]; simpa [hg] using hl

theorem loadN_mono (hm : ∀ b x, h.get b = some x → h'.get b = some x) {b o k : Nat} {v : List AV} (hl : h.loadN b o k = some v) : h'.loadN b o k = some v := by
 unfold Heap.loadN Heap.row at hl ⊢
 cases hg : h.get b with
 | none => simp [hg] at hl
 | some x => rw [hm b x hg]; simpa [hg] using hl

theorem load1_at {b : Nat} (hb : h'.get b = h.get b) (o : Nat) : h'.load1 b o = h.load1 b o := by
 unfold Heap.load1 Heap.row; rw [hb]

theorem rI_mono (hm : ∀ b x, h.get b = some x → h'.get b = some x) {op : ROp} {vals : List AV} {v : AV} (hv : rI op vals h = some v) : rI op vals h' = some v := by
 unfold rI at hv ⊢
 split at hv
 ·exact load1_mono hm hv
 ·simp only [Option.map_eq_some_iff] at hv ⊢
  obtain ⟨cs, hl, rfl⟩ := hv
  exact ⟨cs, loadN_mono hm hl, rfl⟩
 ·rename_i ok zero b k
  cases hg : h.get b with
  | none => simp [hg] at hv
  | some x => rw [hm b x hg]; rw [hg] at hv; exact hv
 ·exact hv
 ·exact hv
 ·exact hv
 ·exact hv
 ·rename_i b o len _ _
  cases hl : h.loadN b o len with
  | none => simp [hl] at hv
  | some cs => rw [loadN_mono hm hl]; rw [hl] at hv; exact hv
 ·exact hv
 ·rename_i b
  cases hg : h.get b with
  | none => simp [hg] at hv
  | some x => rw [hm b x hg]; rw [hg] at hv; exact hv
 ·rename_i it
  cases hg : h.get it with
  | none => simp [hg] at hv
  | some x =>
   rw [hm it x hg]; rw [hg] at hv
   split at hv
   ·rename_i m since seen last heq
    simp only [Option.some.injEq] at heq
    subst heq
    split at hv
    ·rename_i st es bs c h1 h2
     rw [h1, hm m _ h2]; exact hv
    ·simp at hv
   ·simp at hv
 ·simp at hv

def After (P : Program) (H0 : Nat) (ρ : Rho) (D : Dom) (h : Heap) (w : World) (s : Sem Next) (v : AV) (h' : Heap) : Prop :=
 ∃ ρ' w', (s.run P w = .ok (.value (real ρ' v)) w' ∨ (s.run P w = .ok .skip w' ∧ v = .undef)) ∧
  Inv P H0 ρ' (grow D h.next h'.next) h' w' ∧ Ext ρ D h w ρ' h' w' ∧ v.inD (grow D h.next h'.next)

theorem setRow_size (w : World) (g : Nat) (o : Obj) : (setRow w g o).heap.size = w.heap.size := by simp [setRow]

theorem store_real (i : Inv P H0 ρ D h w) {b o : Nat} {xs : List AV} (hd : D b) (hx : allD D xs) (hs : h.storeN b o xs = some h') :
  h'.next = h.next ∧ ∃ w', (storeCells ⟨(ρ b).blk, (ρ b).off + o, none⟩ (reals ρ xs)).run P w = .ok () w' ∧ Inv P H0 ρ D h' w' ∧ Ext ρ D h w ρ h' w' := by
 unfold Heap.storeN at hs
 split at hs
 ·rename_i vs es hg
  cases hc : (Nat.ble (o + xs.length) vs.length && flatL xs) with
  | false => simp [hc] at hs
  | true =>
   simp only [hc, cond_true, Option.some.injEq] at hs
   subst hs
   simp only [Bool.and_eq_true] at hc
   have hle := Nat.le_of_ble_eq_true hc.1
   obtain ⟨c, t, fr, hcell, h1, h2⟩ := i.blk b _ hd hg
   obtain ⟨h3, h4, h5⟩ := h2 rfl
   have hwr : h.wr b = true := by simp [Heap.wr, hg]
   have hrun := run_storeCells (P := P) (ρ b).blk t fr (reals ρ xs) ((ρ b).off + o) 0 c w hcell (by
     intro v hv
     rw [reals_eq] at hv
     obtain ⟨x, hx', rfl⟩ := List.mem_map.1 hv
     exact flat_one (flatL_all hc.2 x hx')) (by rw [reals_length]; omega) h5
   refine ⟨rfl, _, hrun, ?_⟩
   have hlt := (Array.getElem?_eq_some_iff.1 hcell).1
   refine step_set i hd hwr rfl (setRow_size _ _ _) (fun r hr => by rw [setRow_get, if_neg hr]) rfl rfl rfl ?_
   refine ⟨_, t, fr, by rw [setRow_get, if_pos rfl, if_pos hlt], ?_, fun _ => ⟨h3, ?_, ?_⟩⟩
   ·intro j v hj
    rw [Heap.get_splice _ _ _ _ hle] at hj
    rw [List.getElem?_toArray, Heap.get_splice _ _ _ _ (by simp [reals_length]; omega), reals_length]
    split at hj
    ·rename_i hjj
     rw [if_pos ⟨by omega, by omega⟩]
     refine ⟨?_, (allD_iff D xs).1 hx v (List.mem_of_getElem? hj)⟩
     rw [reals_get, show (ρ b).off + j - ((ρ b).off + o + 0) = j - o by omega, hj]; rfl
    ·rename_i hjj
     rw [if_neg (by omega)]
     have := h1 j v hj
     exact ⟨by simpa using this.1, this.2⟩
   ·simp only [List.size_toArray, Heap.length_splice, Array.length_toList]
    exact h4
   ·simpa [Heap.length_splice] using h5
 ·simp at hs

end
end Ads
end Go.Proofs.Ytlndlbngfgaoeaa

set_option linter.unusedSimpArgs false
set_option linter.unusedVariables false
namespace Go.Proofs.Ytlndlbngfgaoeaa
namespace Ads
section
variable {P : Program} {H0 : Nat} {ρ : Rho} {D : Dom} {h h' : Heap} {w : World} {n : Nat} {env : Env} {a : Act}

theorem loadN_take {b o k m : Nat} {vs : List AV} (hl : h.loadN b o k = some vs) (hm : m ≤ k) : h.loadN b o m = some (vs.take m) := by
 unfold Heap.loadN at hl ⊢
 cases hr : h.row b with
 | none => simp [hr] at hl
 | some xs =>
  simp only [hr] at hl ⊢
  cases hb : Nat.ble (o + k) xs.length with
  | false => simp [hb] at hl
  | true =>
   simp only [hb, cond_true, Option.some.injEq] at hl
   have hle := Nat.le_of_ble_eq_true hb
   have : Nat.ble (o + m) xs.length = true := Nat.ble_eq_true_of_le (by omega)
   simp only [this, cond_true, Option.some.injEq]
   rw [← hl, List.take_take, Nat.min_eq_left hm]

theorem src_real (i : Inv P H0 ρ D h w) {size k : Nat} {x : AV} {cs : List AV} (hd : x.inD D) (hs : srcCells size h x = some (k, cs)) :
  (Builtin.lenOf (real ρ x)).run P w = .ok k w ∧ allD D cs ∧
  ((∀ s, x ≠ .str s) → ∀ m, m ≤ k → (Builtin.firstCells size m (real ρ x)).run P w = .ok (reals ρ (cs.take (m * size))).toArray w) ∧
  (Builtin.firstCells size k (real ρ x)).run P w = .ok (reals ρ cs).toArray w := by
 cases x with
 | nils =>
  simp only [srcCells, Option.some.injEq, Prod.mk.injEq] at hs
  obtain ⟨rfl, rfl⟩ := hs
  exact ⟨by simp [Builtin.lenOf, real], by simp [allD], fun _ m _ => by simp [Builtin.firstCells, real, reals], by simp [Builtin.firstCells, real, reals]⟩
 | wild wa =>
  simp only [srcCells, Option.some.injEq, Prod.mk.injEq] at hs
  obtain ⟨rfl, rfl⟩ := hs
  refine ⟨by simp [Builtin.lenOf, real], by simp [allD], fun _ m hm => ?_, by simp [Builtin.firstCells, real, reals, loadCells, loadCellsFrom]⟩
  have : m = 0 := by omega
  subst this
  simp [Builtin.firstCells, real, reals, loadCells, loadCellsFrom]
 | rest b o j =>
  simp only [srcCells, Option.some.injEq, Prod.mk.injEq] at hs
  obtain ⟨rfl, rfl⟩ := hs
  refine ⟨by simp [Builtin.lenOf, real], by simp [allD], fun _ m hm => ?_, by simp [Builtin.firstCells, real, reals, loadCells, loadCellsFrom]⟩
  have : m = 0 := by omega
  subst this
  simp [Builtin.firstCells, real, reals, loadCells, loadCellsFrom]
 | sl b o len cap opn =>
  simp only [srcCells, Option.map_eq_some_iff, Prod.mk.injEq] at hs
  obtain ⟨cs', hl, rfl, rfl⟩ := hs
  simp only [AV.inD] at hd
  have hfull := run_loadCells_real (P := P) i hd hl
  refine ⟨by simp [Builtin.lenOf, real], hfull.2, fun _ m hm => ?_, ?_⟩
  ·have := run_loadCells_real (P := P) i hd (loadN_take hl (Nat.mul_le_mul_right size hm))
   simp only [Builtin.firstCells, real]
   exact this.1
  ·simp only [Builtin.firstCells, real]
   exact hfull.1
 | str s =>
  simp only [srcCells] at hs
  cases h1 : Nat.beq size 1 with
  | false => simp [h1] at hs
  | true =>
  simp only [h1, cond_true, Option.some.injEq, Prod.mk.injEq] at hs
  obtain ⟨rfl, rfl⟩ := hs
  have hsz : (⟨s.toArray⟩ : ByteArray).size = s.length := by simp only [ByteArray.size, List.size_toArray]
  refine ⟨by simp only [Builtin.lenOf, real, Sem.run_pure, hsz], ?_, fun hne => absurd rfl (hne s), ?_⟩
  ·rw [allD_iff]
   intro v hv
   obtain ⟨b, _, rfl⟩ := List.mem_map.1 hv
   simp [AV.inD]
  ·simp only [Builtin.firstCells, real, Sem.run_pure]
   congr 1
   have : (⟨s.toArray⟩ : ByteArray).extract 0 s.length = ⟨s.toArray⟩ := by
    apply ByteArray.ext
    rw [ByteArray.data_extract]
    apply Array.ext'
    simp
   rw [this]
   apply Array.ext'
   simp [reals_eq, real, Function.comp_def]
 | _ => simp [srcCells] at hs

theorem zeroCells_size (z : Array Value) (k : Nat) : (Builtin.zeroCells z k).size = k * z.size := by simp [Builtin.zeroCells]

theorem grown_row (i : Inv P H0 ρ D h w) {cs : List AV} (t : TypeId) (es extra : Nat) (rest : Array Value) (hd : allD D cs) (hr : rest.size = extra * es) :
  let L : Loc := ⟨w.heap.size, 0, extra⟩
  Inv P H0 (upd ρ h.next L) (grow D h.next (h.next + 1)) (h.new (.cells cs true es)) (w.drew.alloc (.cells ((reals ρ cs).toArray ++ rest) t)) ∧
  Ext ρ D h w (upd ρ h.next L) (h.new (.cells cs true es)) (w.drew.alloc (.cells ((reals ρ cs).toArray ++ rest) t)) := by
 intro L
 refine step_new i _ extra (.cells ((reals ρ cs).toArray ++ rest) t) rfl rfl rfl rfl ?_
 have hag : ∀ b, D b → upd ρ h.next L b = ρ b := fun b hb => upd_ne _ _ (by have := i.lt b hb; omega)
 refine ⟨_, t, (0, 0), alloc_new w.drew _, ?_, fun _ => ⟨i.low, ?_, fun j h1 h2 => by simp at h2⟩⟩
 ·intro j v hj
  have hjl : j < cs.length := (List.getElem?_eq_some_iff.1 hj).1
  have hv := (allD_iff D cs).1 hd v (List.mem_of_getElem? hj)
  refine ⟨?_, inD_mono (fun _ => .inl) v hv⟩
  rw [real_agree hag v hv]
  simp only [Nat.zero_add]
  rw [Array.getElem?_append_left (by simp [reals_length]; exact hjl), List.getElem?_toArray, reals_get, hj]
  rfl
 ·simp [reals_length, hr]

theorem reals_toArray_append (ρ : Rho) (l m : List AV) : (reals ρ l).toArray ++ (reals ρ m).toArray = (reals ρ (l ++ m)).toArray := by
 rw [reals_append]; simp

theorem run_grow {t u e ty : TypeId} {z : AV} {size bytes k m cap : Nat} {base : Option Addr} {xv : Value} {old new : Array Value} {d : TypeDesc} (hu : P.underlying t = some (.slice e)) (hd : P.underlying u = some d) (hx : isSrcD d = true)
  (hs : sizeT P e = some size) (hb : bytesT P e = some bytes) (hz : zeroT P e = some z)
  (hlen : (Builtin.lenOf xv).run P w = .ok m w) (hold : (Builtin.firstCells size k (.slice base k cap)).run P w.drew = .ok old w.drew)
  (hnew : (Builtin.firstCells size m xv).run P w.drew = .ok new w.drew) (hgt : ¬ k + m ≤ cap) (hb1 : (k + m) * bytes ≤ 140737488355328) (hb2 : k + m ≤ 9223372036854775807) :
  ∃ newCap, k + m ≤ newCap ∧ (Builtin.append_ #[t, u] ty #[.slice base k cap, xv]).run P w =
   .ok (.slice (some ⟨w.heap.size, 0, none⟩) (k + m) newCap) (w.drew.alloc (.cells (old ++ new ++ Builtin.zeroCells (real ρ z).cells (newCap - (k + m))) e)) := by
 obtain ⟨i, hi, hib⟩ : ∃ i, P.info? e = some i ∧ i.bytes = bytes := by
  simp only [bytesT, Option.map_eq_some_iff] at hb
  obtain ⟨i, hi, hb⟩ := hb
  exact ⟨i, hi, hb⟩
 have hzd : (zeroValue e).run P w.drew = .ok (real ρ z) w.drew := (run_zeroValue hz ρ (fun _ => True)).1
 have hsz : (sizeOf e).run P w = .ok size w := run_sizeOf hs
 have hnsc := nextslicecap_le (need := k + m) (old := cap) (by omega)
 refine ⟨(Question.appendCap (k + m) cap e).cut (w.tape w.drawn (.appendCap (k + m) cap e)), Nat.le_add_right _ _, ?_⟩
 have h63 : ¬ (9223372036854775807 < ((k : Int) + (m : Int))) := by omega
 have h48 : ¬ (281474976710656 < Builtin.nextslicecap (k + m) cap * bytes) := by
  have : Builtin.nextslicecap (k + m) cap * bytes ≤ 2 * (k + m) * bytes := Nat.mul_le_mul_right _ hnsc
  have h3 : 2 * (k + m) * bytes = 2 * ((k + m) * bytes) := Nat.mul_assoc _ _ _
  omega
 cases d <;> simp [isSrcD] at hx
 ·simp [Builtin.append_, run_underlying hu, run_underlying hd, hsz, run_typeInfo hi, hib, hlen, hgt, h63, h48, Question.forced, hold, hnew, hzd, run_newRow, Result.andThen]
 ·simp [Builtin.append_, run_underlying hu, run_underlying hd, hsz, run_typeInfo hi, hib, hlen, hgt, h63, h48, Question.forced, hold, hnew, hzd, run_newRow, Result.andThen]

theorem run_fits {t u e ty : TypeId} {size k m cap : Nat} {base : Option Addr} {xv : Value} {new : Array Value} {d : TypeDesc} {w' : World} (hu : P.underlying t = some (.slice e)) (hd : P.underlying u = some d) (hx : isSrcD d = true)
  (hs : sizeT P e = some size) (hlen : (Builtin.lenOf xv).run P w = .ok m w) (hnew : (Builtin.firstCells size m xv).run P w = .ok new w) (hle : k + m ≤ cap)
  (hst : ∀ a, base = some a → (storeCells (a.add (k * size)) new.toList).run P w = .ok () w') (hn : base = none → w' = w) :
  (Builtin.append_ #[t, u] ty #[.slice base k cap, xv]).run P w = .ok (.slice base (k + m) cap) w' := by
 have hsz : (sizeOf e).run P w = .ok size w := run_sizeOf hs
 cases base with
 | none =>
  have := hn rfl
  subst this
  cases d <;> simp [isSrcD] at hx
  ·simp [Builtin.append_, run_underlying hu, run_underlying hd, hsz, hlen, hle, hnew, Result.andThen]
  ·simp [Builtin.append_, run_underlying hu, run_underlying hd, hsz, hlen, hle, hnew, Result.andThen]
 | some a =>
  have h1 := hst a rfl
  cases d <;> simp [isSrcD] at hx
  ·simp [Builtin.append_, run_underlying hu, run_underlying hd, hsz, hlen, hle, hnew, h1, Result.andThen]
  ·simp [Builtin.append_, run_underlying hu, run_underlying hd, hsz, hlen, hle, hnew, h1, Result.andThen]
end
end Ads
end Go.Proofs.Ytlndlbngfgaoeaa

set_option linter.unusedSimpArgs false
set_option linter.unusedVariables false
namespace Go.Proofs.Ytlndlbngfgaoeaa
namespace Ads
section
variable {P : Program} {H0 : Nat} {ρ : Rho} {D : Dom} {h h' : Heap} {w : World} {n : Nat} {env : Env} {a : Act}

theorem drew_inv (i : Inv P H0 ρ D h w) : Inv P H0 ρ D h w.drew where
 lt := i.lt
 top := i.top
 low := i.low
 blk := fun b x hd hx => blkReal_keep (i.blk b x hd hx) (fun _ => id) (fun _ _ => rfl) rfl
 apart := i.apart

theorem del_inv (i : Inv P H0 ρ D h w) {b : Nat} (hd : D b) : Inv P H0 ρ D (h.del b) w ∧ Ext ρ D h w ρ (h.del b) w := by
 have hget : ∀ c x, (h.del b).get c = some x → h.get c = some x := by
  intro c x hx
  rw [Heap.get_del] at hx
  split at hx
  ·simp at hx
  ·exact hx
 have hwr : ∀ c, (h.del b).wr c = true → h.wr c = true := by
  intro c hx
  rw [wr_del] at hx
  split at hx
  ·simp at hx
  ·exact hx
 constructor
 ·refine ⟨i.lt, ?_, i.low, fun c x hc hx => i.blk c x hc (hget c x hx), ?_⟩
  ·intro c hc
   rw [Heap.get_del]
   split
   ·rfl
   ·exact i.top c hc
  ·intro c c' hc hc' hne hw hg
   refine i.apart c c' hc hc' hne (hwr c hw) ?_
   cases hx : (h.del b).get c' with
   | none => exact absurd hx hg
   | some x => rw [hget c' x hx]; simp
 ·refine ⟨Nat.le_refl _, fun _ _ => rfl, Nat.le_refl _, fun _ _ _ => rfl, ?_, ?_, fun _ h1 h2 => by simp at h2; omega, rfl, rfl, rfl⟩
  ·intro c _ hc
   rw [Heap.get_del, if_neg (fun e => hc (by rw [e]; exact hd))]
  ·intro c _ hn
   rw [Heap.get_del] at hn
   rw [wr_del]
   split at hn
   ·simp at hn
   ·rename_i hne
    rw [if_neg hne]; exact ⟨hn, id⟩

theorem srcCells_len {size m : Nat} {h : Heap} {x : AV} {new : List AV} (hsc : srcCells size h x = some (m, new)) : new.length = m * size := by
 cases x with
 | nils => simp [srcCells] at hsc; obtain ⟨rfl, rfl⟩ := hsc; simp
 | wild wa => simp [srcCells] at hsc; obtain ⟨rfl, rfl⟩ := hsc; simp
 | rest b o j => simp [srcCells] at hsc; obtain ⟨rfl, rfl⟩ := hsc; simp
 | sl b2 o2 l2 c2 op2 =>
  simp only [srcCells, Option.map_eq_some_iff, Prod.mk.injEq] at hsc
  obtain ⟨cs2, hl2, rfl, rfl⟩ := hsc
  exact (loadN_load1 hl2).1
 | str s2 =>
  simp only [srcCells] at hsc
  cases h1 : Nat.beq size 1 with
  | false => simp [h1] at hsc
  | true =>
   simp only [h1, cond_true, Option.some.injEq, Prod.mk.injEq] at hsc
   obtain ⟨rfl, rfl⟩ := hsc
   rw [Nat.eq_of_beq_eq_true h1]; simp
 | _ => simp [srcCells] at hsc

theorem append_case {o : Oper} {c : Call} {s x : Operand} {t u : TypeId} {ts : List TypeId} {e : TypeId} {d : TypeDesc} {size bytes : Nat} {z : AV} {rs : List Rand} {v : AV} {op : EOp}
  (he : EInv ρ D n env a) (i : Inv P H0 ρ D h w) (ho : o.op = .call c) (hcb : c.callee = .builtin .append) (hargs : c.args.toList = [s, x]) (htypes : c.argTypes.toList = t :: u :: ts)
  (hu : P.underlying t = some (.slice e)) (hd : P.underlying u = some d) (hsrc : isSrcD d = true) (hsz : sizeT P e = some size) (hb : bytesT P e = some bytes) (hz : zeroT P e = some z)
  (hzl : z.cells.length = size) (hc : one (.e (.append size bytes)) [s, x] = some (.e op, rs)) (hv : eI op (rs.map env.ev) h = some (v, h')) :
  After P H0 ρ D h w (execOp a.eval o) v h' := by
 obtain ⟨hq, hr⟩ := one_of hc
 simp only [IOp.e.injEq] at hq
 subst hq
 obtain ⟨r, q, rfl, h1, h2⟩ := rands_two hr
 have e1 := rand_real he h1
 have e2 := rand_real he h2
 rw [exec_builtin o c .append ho hcb, args_map hargs (ys := [real ρ (env.ev r), real ρ (env.ev q)]) (by simp [e1.1, e2.1])]
 simp only [List.map_cons, List.map_nil, eI] at hv
 have hat : ∃ ts', c.argTypes = (t :: u :: ts').toArray := ⟨ts, types_of htypes⟩
 obtain ⟨ts', hat⟩ := hat
 have happ : ∀ (x y : Value), Builtin.append_ (t :: u :: ts').toArray o.type #[x, y] = Builtin.append_ #[t, u] o.type #[x, y] := by
  intro x y; simp [Builtin.append_]
 rw [hat]
 have hbi : ∀ (l : Array Bool) (xs : List Value), builtin .append (t :: u :: ts').toArray o.type l xs.toArray = (do pure (.value (← Builtin.append_ (t :: u :: ts').toArray o.type xs.toArray))) := fun _ _ => rfl
 rw [hbi]
 rw [show ([real ρ (env.ev r), real ρ (env.ev q)] : List Value).toArray = #[real ρ (env.ev r), real ρ (env.ev q)] from rfl, happ]
 have fin : ∀ {ρ' : Rho} {w' : World} {v : AV}, (Builtin.append_ #[t, u] o.type #[real ρ (env.ev r), real ρ (env.ev q)]).run P w = .ok (real ρ' v) w' →
   (do pure (.value (← Builtin.append_ #[t, u] o.type #[real ρ (env.ev r), real ρ (env.ev q)])) : Sem Next).run P w = .ok (.value (real ρ' v)) w' := by
  intro ρ' w' v hh
  rw [Sem.run_bind, hh]; rfl
 cases hsc : srcCells size h (env.ev q) with
 | none => simp [hsc] at hv
 | some km =>
  obtain ⟨m, new⟩ := km
  simp only [hsc] at hv
  have hs := src_real (P := P) i e2.2 hsc
  have hs' := src_real (P := P) (drew_inv i) e2.2 hsc
  obtain ⟨hlen, hnd, _, hnew⟩ := hs
  have hnew' := hs'.2.2.2
  cases hfl : flatL new with
  | false => simp [hfl] at hv
  | true =>
   simp only [hfl, cond_true] at hv
   cases hr' : env.ev r with
   | nils =>
    rw [hr'] at hv
    simp only at hv
    cases hm0 : Nat.beq m 0 with
    | true =>
     have hm := Nat.eq_of_beq_eq_true hm0
     subst hm
     simp only [hm0, cond_true, Option.some.injEq, Prod.mk.injEq] at hv
     obtain ⟨rfl, rfl⟩ := hv
     rw [hr'] at fin
     refine ⟨ρ, w, .inl (fin (ρ' := ρ) (v := .nils) ?_), by rw [grow_self]; exact i, Ext.refl _ _ _ _, by simp [AV.inD]⟩
     exact run_fits (k := 0) (cap := 0) (base := none) hu hd hsrc hsz hlen hnew (Nat.le_refl _) (fun _ hh => by simp at hh) (fun _ => rfl)
    | false =>
     simp only [hm0, cond_false] at hv
     cases hg : (Nat.ble (m * bytes) 140737488355328 && Nat.ble m 9223372036854775807) with
     | false => simp [hg] at hv
     | true =>
      simp only [hg, cond_true, Option.some.injEq, Prod.mk.injEq] at hv
      obtain ⟨rfl, rfl⟩ := hv
      simp only [Bool.and_eq_true] at hg
      have g1 := Nat.le_of_ble_eq_true hg.1
      have g2 := Nat.le_of_ble_eq_true hg.2
      have hmne : m ≠ 0 := by intro e; rw [e] at hm0; simp at hm0
      obtain ⟨nc, hnc, hrun⟩ := run_grow (P := P) (w := w) (ρ := ρ) (ty := o.type) (k := 0) (cap := 0) (base := none) (old := #[]) hu hd hsrc hsz hb hz hlen (by simp [Builtin.firstCells]) hnew' (by omega) (by simpa using g1) (by omega)
      rw [hr'] at fin
      have hgr := grown_row i (w := w) e size (nc - m) (Builtin.zeroCells (real ρ z).cells (nc - m)) hnd (by rw [zeroCells_size, real_cells]; simp [reals_length, hzl])
      refine ⟨_, _, .inl (fin ?_), hgr.1, hgr.2, ?_⟩
      ·simp only [real, hrun, Nat.zero_add]
       simp only [Array.empty_append, upd_self, cond_true, Nat.zero_add, Nat.add_zero]
       congr 2
       omega
      ·simp only [AV.inD, grow]; exact .inr ⟨Nat.le_refl _, by simp⟩
   | wild wa =>
    rw [hr'] at hv
    simp only at hv
    cases hm0 : Nat.beq m 0 with
    | true =>
     have hm := Nat.eq_of_beq_eq_true hm0
     subst hm
     simp only [hm0, cond_true, Option.some.injEq, Prod.mk.injEq] at hv
     obtain ⟨rfl, rfl⟩ := hv
     rw [hr'] at fin
     refine ⟨ρ, w, .inl (fin (ρ' := ρ) (v := .wild wa) ?_), by rw [grow_self]; exact i, Ext.refl _ _ _ _, by simp [AV.inD]⟩
     have hnl : new = [] := List.length_eq_zero_iff.1 (by rw [srcCells_len hsc]; simp)
     subst hnl
     exact run_fits (k := 0) (cap := 0) (base := some wa) hu hd hsrc hsz hlen hnew (Nat.le_refl _) (fun ad hh => by simp [reals, storeCells]) (fun hh => by simp at hh)
    | false =>
     simp only [hm0, cond_false] at hv
     cases hg : (Nat.ble (m * bytes) 140737488355328 && Nat.ble m 9223372036854775807) with
     | false => simp [hg] at hv
     | true =>
      simp only [hg, cond_true, Option.some.injEq, Prod.mk.injEq] at hv
      obtain ⟨rfl, rfl⟩ := hv
      simp only [Bool.and_eq_true] at hg
      have g1 := Nat.le_of_ble_eq_true hg.1
      have g2 := Nat.le_of_ble_eq_true hg.2
      have hmne : m ≠ 0 := by intro e; rw [e] at hm0; simp at hm0
      obtain ⟨nc, hnc, hrun⟩ := run_grow (P := P) (w := w) (ρ := ρ) (ty := o.type) (k := 0) (cap := 0) (base := some wa) (old := #[]) hu hd hsrc hsz hb hz hlen (by simp [Builtin.firstCells, loadCells, loadCellsFrom]) hnew' (by omega) (by simpa using g1) (by omega)
      rw [hr'] at fin
      have hgr := grown_row i (w := w) e size (nc - m) (Builtin.zeroCells (real ρ z).cells (nc - m)) hnd (by rw [zeroCells_size, real_cells]; simp [reals_length, hzl])
      refine ⟨_, _, .inl (fin ?_), hgr.1, hgr.2, ?_⟩
      ·simp only [real, hrun, Nat.zero_add]
       simp only [Array.empty_append, upd_self, cond_true, Nat.zero_add, Nat.add_zero]
       congr 2
       omega
      ·simp only [AV.inD, grow]; exact .inr ⟨Nat.le_refl _, by simp⟩
   | sl b o' len cap opn =>
    rw [hr'] at hv e1
    simp only at hv
    simp only [AV.inD] at e1
    rw [hr'] at fin
    cases hz0 : (Nat.beq m 0 && Nat.ble len cap) with
    | true =>
     simp only [hz0, cond_true, Option.some.injEq, Prod.mk.injEq] at hv
     obtain ⟨rfl, rfl⟩ := hv
     simp only [Bool.and_eq_true] at hz0
     have hm0 := Nat.eq_of_beq_eq_true hz0.1
     have hle0 := Nat.le_of_ble_eq_true hz0.2
     subst hm0
     have hnl : new = [] := by
      have hll := srcCells_len hsc
      exact List.length_eq_zero_iff.1 (by rw [hll]; simp)
     subst hnl
     refine ⟨ρ, w, .inl (fin (ρ' := ρ) (v := .sl b o' len cap opn) ?_), by rw [grow_self]; exact i, Ext.refl _ _ _ _, by rw [grow_self]; simpa [AV.inD] using e1.2⟩
     simp only [real]
     refine run_fits (m := 0) hu hd hsrc hsz hlen hnew ?_ (fun ad hh => ?_) (fun hh => by simp at hh)
     ·cases opn <;> simp <;> omega
     ·simp [reals, storeCells]
    | false =>
    simp only [hz0, cond_false] at hv
    cases hfit : Nat.ble (len + m) cap with
    | true =>
     have hle := Nat.le_of_ble_eq_true hfit
     simp only [hfit, cond_true, Option.map_eq_some_iff, Prod.mk.injEq] at hv
     obtain ⟨h2, hst, rfl, rfl⟩ := hv
     obtain ⟨hnx, w', hrun, hinv, hext⟩ := store_real (P := P) i e1.2 hnd hst
     refine ⟨ρ, w', .inl (fin (ρ' := ρ) (v := .sl b o' (len + m) cap opn) ?_), by rw [hnx, grow_self]; exact hinv, hext, by rw [hnx, grow_self]; simpa [AV.inD] using e1.2⟩
     simp only [real]
     refine run_fits hu hd hsrc hsz hlen hnew ?_ ?_ (fun hh => by simp at hh)
     ·cases opn <;> simp <;> omega
     ·intro ad hh
      simp only [Option.some.injEq] at hh
      subst hh
      rw [add_real]
      exact hrun
    | false =>
     have hgt : ¬ len + m ≤ cap := fun hle => by rw [Nat.ble_eq_true_of_le hle] at hfit; simp at hfit
     simp only [hfit, cond_false] at hv
     cases hg : (Nat.ble ((len + m) * bytes) 140737488355328 && Nat.ble (len + m) 9223372036854775807) with
     | false => simp [hg] at hv
     | true =>
      simp only [hg, cond_true] at hv
      simp only [Bool.and_eq_true] at hg
      have g1 := Nat.le_of_ble_eq_true hg.1
      have g2 := Nat.le_of_ble_eq_true hg.2
      cases hgb : h.get b with
      | none => simp [hgb] at hv
      | some xb =>
       cases xb with
       | cells vs wr es =>
        cases hld : h.loadN b o' (len * size) with
        | none => simp [hgb, hld] at hv
        | some old =>
         simp only [hgb, hld] at hv
         have hlo := run_loadCells_real (P := P) i e1.2 hld
         have hlo' := run_loadCells_real (P := P) (drew_inv i) e1.2 hld
         have hcd : allD D (old ++ new) := by
          rw [allD_iff]
          intro y hy
          rcases List.mem_append.1 hy with hy | hy
          ·exact (allD_iff D _).1 hlo.2 y hy
          ·exact (allD_iff D _).1 hnd y hy
         have grows : ∀ rcap, ¬ len + m ≤ rcap → real ρ (.sl b o' len cap opn) = .slice (some ⟨(ρ b).blk, (ρ b).off + o', none⟩) len rcap →
           ∃ nc, len + m ≤ nc ∧ (Builtin.append_ #[t, u] o.type #[real ρ (.sl b o' len cap opn), real ρ (env.ev q)]).run P w =
            .ok (.slice (some ⟨w.heap.size, 0, none⟩) (len + m) nc) (w.drew.alloc (.cells ((reals ρ (old ++ new)).toArray ++ Builtin.zeroCells (real ρ z).cells (nc - (len + m))) e)) := by
          intro rcap hrc hre
          obtain ⟨nc, hnc, hrun⟩ := run_grow (P := P) (w := w) (ρ := ρ) (ty := o.type) (k := len) (cap := rcap) (base := some ⟨(ρ b).blk, (ρ b).off + o', none⟩) (old := (reals ρ old).toArray) hu hd hsrc hsz hb hz hlen
           (by simp only [Builtin.firstCells]; exact hlo'.1) hnew' hrc g1 g2
          refine ⟨nc, hnc, ?_⟩
          rw [hre, hrun, reals_toArray_append]
         have endgrow : ∀ (h2 : Heap), h2 = h.new (.cells (old ++ new) true size) → ∀ rcap, ¬ len + m ≤ rcap → real ρ (.sl b o' len cap opn) = .slice (some ⟨(ρ b).blk, (ρ b).off + o', none⟩) len rcap →
           After P H0 ρ D h w (do pure (.value (← Builtin.append_ #[t, u] o.type #[real ρ (.sl b o' len cap opn), real ρ (env.ev q)])) : Sem Next) (.sl h.next 0 (len + m) (len + m) true) h2 := by
          rintro h2 rfl rcap hrc hre
          obtain ⟨nc, hnc, hrun⟩ := grows rcap hrc hre
          have hgr := grown_row i (w := w) e size (nc - (len + m)) (Builtin.zeroCells (real ρ z).cells (nc - (len + m))) hcd (by rw [zeroCells_size, real_cells]; simp [reals_length, hzl])
          refine ⟨_, _, .inl (fin ?_), hgr.1, hgr.2, ?_⟩
          ·rw [hrun]
           simp only [real, upd_self, cond_true, Nat.zero_add, Nat.add_zero]
           congr 2
           omega
          ·simp only [AV.inD, grow]; exact .inr ⟨Nat.le_refl _, by simp⟩
         cases opn with
         | false =>
          simp only [cond_false, Option.some.injEq, Prod.mk.injEq] at hv
          obtain ⟨rfl, rfl⟩ := hv
          exact endgrow _ rfl cap hgt (by simp [real])
         | true =>
          simp only [cond_true] at hv
          cases hk : (wr && Nat.beq vs.length (o' + len * size) && Nat.beq cap len && Nat.beq es size) with
          | false => simp [hk] at hv
          | true =>
           simp only [hk, cond_true, Option.some.injEq, Prod.mk.injEq] at hv
           obtain ⟨rfl, rfl⟩ := hv
           simp only [Bool.and_eq_true] at hk
           obtain ⟨⟨⟨hwr, hvl⟩, hcl⟩, hes⟩ := hk
           have hvl := Nat.eq_of_beq_eq_true hvl
           have hcl := Nat.eq_of_beq_eq_true hcl
           have hes := Nat.eq_of_beq_eq_true hes
           subst hwr hcl hes
           by_cases hroom : cap + m ≤ cap + (ρ b).extra
           ·
            obtain ⟨c', tt, fr, hcell, hb1, hb2⟩ := i.blk b _ e1.2 hgb
            obtain ⟨hb3, hb4, hb5⟩ := hb2 rfl
            have hol : old.length = cap * es := (loadN_load1 hld).1
            have hml : new.length = m * es := by
             cases hq' : env.ev q with
             | nils => rw [hq'] at hsc; simp [srcCells] at hsc; obtain ⟨rfl, rfl⟩ := hsc; simp
             | wild wa => rw [hq'] at hsc; simp [srcCells] at hsc; obtain ⟨rfl, rfl⟩ := hsc; simp
             | rest b o j => rw [hq'] at hsc; simp [srcCells] at hsc; obtain ⟨rfl, rfl⟩ := hsc; simp
             | sl b2 o2 l2 c2 op2 =>
              rw [hq'] at hsc
              simp only [srcCells, Option.map_eq_some_iff, Prod.mk.injEq] at hsc
              obtain ⟨cs2, hl2, rfl, rfl⟩ := hsc
              exact (loadN_load1 hl2).1
             | str s2 =>
              rw [hq'] at hsc
              simp only [srcCells] at hsc
              cases h1 : Nat.beq es 1 with
              | false => simp [h1] at hsc
              | true =>
               simp only [h1, cond_true, Option.some.injEq, Prod.mk.injEq] at hsc
               obtain ⟨rfl, rfl⟩ := hsc
               rw [Nat.eq_of_beq_eq_true h1]; simp
             | _ => rw [hq'] at hsc; simp [srcCells] at hsc
            have hwrb : h.wr b = true := by simp [Heap.wr, hgb]
            have hlt := (Array.getElem?_eq_some_iff.1 hcell).1
            have hms : m * es ≤ (ρ b).extra * es := Nat.mul_le_mul_right _ (by omega)
            have hme : m * es + ((ρ b).extra - m) * es = (ρ b).extra * es := by rw [← Nat.add_mul]; congr 1; omega
            have hst := run_storeCells (P := P) (ρ b).blk tt fr (reals ρ new) ((ρ b).off + (o' + cap * es)) 0 c' w hcell (by
              intro y hy
              rw [reals_eq] at hy
              obtain ⟨x', hx', rfl⟩ := List.mem_map.1 hy
              exact flat_one (flatL_all hfl x' hx')) (by rw [reals_length]; omega) hb5
            have hag : ∀ y, D y → upd ρ h.next ⟨(ρ b).blk, (ρ b).off + o', (ρ b).extra - m⟩ y = ρ y := fun y hy => upd_ne _ _ (by have := i.lt y hy; omega)
            have hmv := step_move i (w' := setRow w (ρ b).blk (.cells (Heap.splice c'.toList ((ρ b).off + (o' + cap * es) + 0) (reals ρ new)).toArray tt fr)) (old ++ new) es ⟨(ρ b).blk, (ρ b).off + o', (ρ b).extra - m⟩ rfl e1.2 hwrb (setRow_size _ _ _) (fun r hr => by rw [setRow_get, if_neg hr]) rfl rfl rfl (by
             refine ⟨_, tt, fr, by rw [setRow_get, if_pos rfl, if_pos hlt], ?_, fun _ => ⟨hb3, ?_, ?_⟩⟩
             ·intro j y hj
              have hyd := (allD_iff D _).1 hcd y (List.mem_of_getElem? hj)
              rw [real_agree hag y hyd]
              refine ⟨?_, inD_mono (fun _ => .inl) y hyd⟩
              rw [List.getElem?_toArray, Heap.get_splice _ _ _ _ (by simp [reals_length]; omega), reals_length]
              by_cases hjo : j < old.length
              ·rw [List.getElem?_append_left hjo] at hj
               rw [if_neg (by simp only; omega)]
               have hl1 := (loadN_load1 hld).2 j y hj
               have hvj : vs[o' + j]? = some y := by
                simpa [Heap.load1, Heap.row, hgb] using hl1
               have := (hb1 _ _ hvj).1
               simpa [Nat.add_assoc] using this
              ·rw [List.getElem?_append_right (by omega)] at hj
               have hjl : j - old.length < new.length := (List.getElem?_eq_some_iff.1 hj).1
               rw [if_pos (by simp only; omega), reals_get]
               simp only
               rw [show (ρ b).off + o' + j - ((ρ b).off + (o' + cap * es) + 0) = j - old.length by omega, hj]
               rfl
             ·simp only [List.size_toArray, Heap.length_splice, Array.length_toList, List.length_append]
              omega
             ·simpa [Heap.length_splice] using hb5)
            refine ⟨_, _, .inl (fin (v := .sl h.next 0 (cap + m) (cap + m) true) ?_), hmv.1, hmv.2, by simp only [AV.inD, grow]; exact .inr ⟨Nat.le_refl _, by simp⟩⟩
            have hfits := run_fits (P := P) (ty := o.type) (base := some ⟨(ρ b).blk, (ρ b).off + o', none⟩) (k := cap) (cap := cap + (ρ b).extra) hu hd hsrc hsz hlen hnew hroom (fun ad hh => by
             simp only [Option.some.injEq] at hh
             subst hh
             rw [add_real]
             exact hst) (fun hh => by simp at hh)
            simp only [real, cond_true, upd_self, hfits, Nat.add_zero]
            congr 2
            omega
           ·have hdel := del_inv i e1.2
            obtain ⟨nc, hnc, hrun⟩ := grows (cap + (ρ b).extra) hroom (by simp [real])
            have hgr := grown_row hdel.1 (w := w) e es (nc - (cap + m)) (Builtin.zeroCells (real ρ z).cells (nc - (cap + m))) hcd (by rw [zeroCells_size, real_cells]; simp [reals_length, hzl])
            have hext := Ext.trans i.lt hdel.2 (by rw [show (h.del b).next = h.next from rfl, grow_self]; exact hgr.2)
            refine ⟨_, _, .inl (fin ?_), hgr.1, hext, ?_⟩
            ·rw [hrun]
             simp only [real, upd_self, cond_true, Nat.zero_add, Nat.add_zero, Heap.next_del]
             congr 2
             omega
            ·simp only [AV.inD, grow]; exact .inr ⟨Nat.le_refl _, by simp⟩
       | _ => simp [hgb] at hv
   | _ => rw [hr'] at hv; simp at hv

theorem blkReal_ro {L : Loc} {vs : List AV} {es : Nat} (hx : blkReal P H0 ρ D L (.cells vs true es) w) : blkReal P H0 ρ D L (.cells vs false es) w := by
 obtain ⟨c, t, fr, h1, h2, _⟩ := hx
 exact ⟨c, t, fr, h1, h2, fun hf => by simp at hf⟩

theorem appendK_case {o : Oper} {c : Call} {s x : Operand} {t u : TypeId} {ts : List TypeId} {e : TypeId} {d : TypeDesc} {size bytes : Nat} {z : AV} {rs : List Rand} {v : AV}
  (he : EInv ρ D n env a) (i : Inv P H0 ρ D h w) (ho : o.op = .call c) (hcb : c.callee = .builtin .append) (hargs : c.args.toList = [s, x]) (htypes : c.argTypes.toList = t :: u :: ts)
  (hu : P.underlying t = some (.slice e)) (hd : P.underlying u = some d) (hsrc : isSrcD d = true) (hsz : sizeT P e = some size) (hb : bytesT P e = some bytes) (hz : zeroT P e = some z)
  (hzl : z.cells.length = size) (hr : randsOf [s, x] = some rs) (hv : eK (.append size bytes) (rs.map env.ev) h = some (v, h')) :
  After P H0 ρ D h w (execOp a.eval o) v h' := by
 obtain ⟨r, q, rfl, h1, h2⟩ := rands_two hr
 have e1 := rand_real he h1
 have e2 := rand_real he h2
 rw [exec_builtin o c .append ho hcb, args_map hargs (ys := [real ρ (env.ev r), real ρ (env.ev q)]) (by simp [e1.1, e2.1])]
 simp only [List.map_cons, List.map_nil] at hv
 have hat : ∃ ts', c.argTypes = (t :: u :: ts').toArray := ⟨ts, types_of htypes⟩
 obtain ⟨ts', hat⟩ := hat
 have happ : ∀ (x y : Value), Builtin.append_ (t :: u :: ts').toArray o.type #[x, y] = Builtin.append_ #[t, u] o.type #[x, y] := by
  intro x y; simp [Builtin.append_]
 rw [hat]
 have hbi : ∀ (l : Array Bool) (xs : List Value), builtin .append (t :: u :: ts').toArray o.type l xs.toArray = (do pure (.value (← Builtin.append_ (t :: u :: ts').toArray o.type xs.toArray))) := fun _ _ => rfl
 rw [hbi]
 rw [show ([real ρ (env.ev r), real ρ (env.ev q)] : List Value).toArray = #[real ρ (env.ev r), real ρ (env.ev q)] from rfl, happ]
 have fin : ∀ {ρ' : Rho} {w' : World} {v : AV}, (Builtin.append_ #[t, u] o.type #[real ρ (env.ev r), real ρ (env.ev q)]).run P w = .ok (real ρ' v) w' →
   (do pure (.value (← Builtin.append_ #[t, u] o.type #[real ρ (env.ev r), real ρ (env.ev q)])) : Sem Next).run P w = .ok (.value (real ρ' v)) w' := by
  intro ρ' w' v hh
  rw [Sem.run_bind, hh]; rfl
 cases hr' : env.ev r with
 | sl b o' len cap opn =>
  cases opn with
  | false => rw [hr'] at hv; simp [eK] at hv
  | true =>
  rw [hr'] at hv e1
  simp only [AV.inD] at e1
  rw [hr'] at fin
  simp only [eK] at hv
  cases hsc : srcCells size h (env.ev q) with
  | none => simp [hsc] at hv
  | some km =>
   obtain ⟨m, new⟩ := km
   simp only [hsc] at hv
   have hs := src_real (P := P) i e2.2 hsc
   have hs' := src_real (P := P) (drew_inv i) e2.2 hsc
   obtain ⟨hlen, hnd, _, hnew⟩ := hs
   have hnew' := hs'.2.2.2
   split at hv
   ·rename_i vs es old hgb hld
    cases hk : (flatL new && (!Nat.beq m 0 && Nat.ble ((len + m) * bytes) 140737488355328 && Nat.ble (len + m) 9223372036854775807) && (Nat.beq vs.length (o' + len * size) && Nat.beq cap len && Nat.beq es size)) with
    | false => simp [hk] at hv
    | true =>
     simp only [hk, cond_true, Option.some.injEq, Prod.mk.injEq] at hv
     obtain ⟨rfl, rfl⟩ := hv
     simp only [Bool.and_eq_true] at hk
     obtain ⟨⟨hfl, ⟨hm0, g1⟩, g2⟩, ⟨hvl, hcl⟩, hes⟩ := hk
     have g1 := Nat.le_of_ble_eq_true g1
     have g2 := Nat.le_of_ble_eq_true g2
     have hvl := Nat.eq_of_beq_eq_true hvl
     have hcl := Nat.eq_of_beq_eq_true hcl
     have hes := Nat.eq_of_beq_eq_true hes
     subst hcl hes
     have hmne : m ≠ 0 := by rintro rfl; simp at hm0
     have hlo := run_loadCells_real (P := P) i e1.2 hld
     have hlo' := run_loadCells_real (P := P) (drew_inv i) e1.2 hld
     have hcd : allD D (old ++ new) := by
      rw [allD_iff]
      intro y hy
      rcases List.mem_append.1 hy with hy | hy
      ·exact (allD_iff D _).1 hlo.2 y hy
      ·exact (allD_iff D _).1 hnd y hy
     obtain ⟨c', tt, fr, hcell, hb1, hb2⟩ := i.blk b _ e1.2 hgb
     obtain ⟨hb3, hb4, hb5⟩ := hb2 rfl
     have hol : old.length = cap * es := (loadN_load1 hld).1
     have hlt := (Array.getElem?_eq_some_iff.1 hcell).1
     have hml : new.length = m * es := srcCells_len hsc
     by_cases hroom : cap + m ≤ cap + (ρ b).extra
     ·
      have hms : m * es ≤ (ρ b).extra * es := Nat.mul_le_mul_right _ (by omega)
      have hst := run_storeCells (P := P) (ρ b).blk tt fr (reals ρ new) ((ρ b).off + (o' + cap * es)) 0 c' w hcell (by
        intro y hy
        rw [reals_eq] at hy
        obtain ⟨x', hx', rfl⟩ := List.mem_map.1 hy
        exact flat_one (flatL_all hfl x' hx')) (by rw [reals_length]; omega) hb5
      have hag : ∀ y, D y → upd ρ h.next ⟨(ρ b).blk, (ρ b).off + o', (ρ b).extra - m⟩ y = ρ y := fun y hy => upd_ne _ _ (by have := i.lt y hy; omega)
      have hmv := step_share i (w' := setRow w (ρ b).blk (.cells (Heap.splice c'.toList ((ρ b).off + (o' + cap * es) + 0) (reals ρ new)).toArray tt fr)) hgb (old ++ new) es ⟨(ρ b).blk, (ρ b).off + o', (ρ b).extra - m⟩ (.inl rfl) e1.2
       (Nat.le_of_eq (setRow_size _ _ _).symm) (fun r _ hr => by rw [setRow_get, if_neg hr]) rfl rfl rfl
       (by
        refine ⟨_, tt, fr, by rw [setRow_get, if_pos rfl, if_pos hlt], ?_, fun hf => by simp at hf⟩
        intro j y hj
        have hjl : j < vs.length := (List.getElem?_eq_some_iff.1 hj).1
        have hy := hb1 j y hj
        rw [real_agree hag y hy.2]
        refine ⟨?_, inD_mono (fun _ => .inl) y hy.2⟩
        rw [List.getElem?_toArray, Heap.get_splice _ _ _ _ (by simp [reals_length]; omega), if_neg (by omega)]
        simpa using hy.1)
       (by
        refine ⟨_, tt, fr, by rw [setRow_get, if_pos rfl, if_pos hlt], ?_, fun hf => by simp at hf⟩
        intro j y hj
        have hyd := (allD_iff D _).1 hcd y (List.mem_of_getElem? hj)
        rw [real_agree hag y hyd]
        refine ⟨?_, inD_mono (fun _ => .inl) y hyd⟩
        rw [List.getElem?_toArray, Heap.get_splice _ _ _ _ (by simp [reals_length]; omega), reals_length]
        by_cases hjo : j < old.length
        ·rw [List.getElem?_append_left hjo] at hj
         rw [if_neg (by simp only; omega)]
         have hl1 := (loadN_load1 hld).2 j y hj
         have hvj : vs[o' + j]? = some y := by
          simpa [Heap.load1, Heap.row, hgb] using hl1
         have := (hb1 _ _ hvj).1
         simpa [Nat.add_assoc] using this
        ·rw [List.getElem?_append_right (by omega)] at hj
         have hjl : j - old.length < new.length := (List.getElem?_eq_some_iff.1 hj).1
         rw [if_pos (by simp only; omega), reals_get]
         simp only
         rw [show (ρ b).off + o' + j - ((ρ b).off + (o' + cap * es) + 0) = j - old.length by omega, hj]
         rfl)
      refine ⟨_, _, .inl (fin (v := .sl h.next 0 (cap + m) (cap + m) true) ?_), hmv.1, hmv.2, by simp only [AV.inD, grow]; exact .inr ⟨Nat.le_refl _, by simp⟩⟩
      have hfits := run_fits (P := P) (ty := o.type) (base := some ⟨(ρ b).blk, (ρ b).off + o', none⟩) (k := cap) (cap := cap + (ρ b).extra) hu hd hsrc hsz hlen hnew hroom (fun ad hh => by
       simp only [Option.some.injEq] at hh
       subst hh
       rw [add_real]
       exact hst) (fun hh => by simp at hh)
      simp only [real, cond_true, upd_self, hfits, Nat.add_zero]
      congr 2
      omega
     ·obtain ⟨nc, hnc, hrun⟩ := run_grow (P := P) (w := w) (ρ := ρ) (ty := o.type) (k := cap) (cap := cap + (ρ b).extra) (base := some ⟨(ρ b).blk, (ρ b).off + o', none⟩) (old := (reals ρ old).toArray) hu hd hsrc hsz hb hz hlen
       (by simp only [Builtin.firstCells]; exact hlo'.1) hnew' hroom g1 g2
      rw [reals_toArray_append] at hrun
      have hag : ∀ y, D y → upd ρ h.next ⟨w.heap.size, 0, nc - (cap + m)⟩ y = ρ y := fun y hy => upd_ne _ _ (by have := i.lt y hy; omega)
      have hnew0 := alloc_new w.drew (.cells ((reals ρ (old ++ new)).toArray ++ Builtin.zeroCells (real ρ z).cells (nc - (cap + m))) e)
      have hold0 : ∀ r, r < w.heap.size → (w.drew.alloc (.cells ((reals ρ (old ++ new)).toArray ++ Builtin.zeroCells (real ρ z).cells (nc - (cap + m))) e)).heap[r]? = w.heap[r]? := by
       intro r hr
       rw [show (w.drew.alloc (.cells ((reals ρ (old ++ new)).toArray ++ Builtin.zeroCells (real ρ z).cells (nc - (cap + m))) e)).heap = w.heap.push (.cells ((reals ρ (old ++ new)).toArray ++ Builtin.zeroCells (real ρ z).cells (nc - (cap + m))) e) from rfl, Array.getElem?_push, if_neg (by omega)]
      have hmv := step_share i (w' := w.drew.alloc (.cells ((reals ρ (old ++ new)).toArray ++ Builtin.zeroCells (real ρ z).cells (nc - (cap + m))) e)) hgb (old ++ new) es ⟨w.heap.size, 0, nc - (cap + m)⟩ (.inr (Nat.le_refl _)) e1.2
       (by rw [show (w.drew.alloc (.cells ((reals ρ (old ++ new)).toArray ++ Builtin.zeroCells (real ρ z).cells (nc - (cap + m))) e)).heap = w.heap.push (.cells ((reals ρ (old ++ new)).toArray ++ Builtin.zeroCells (real ρ z).cells (nc - (cap + m))) e) from rfl, Array.size_push]; omega) (fun r hr _ => hold0 r hr) rfl rfl rfl
       (blkReal_keep (blkReal_ro (i.blk b _ e1.2 hgb)) (fun _ => .inl) hag (hold0 _ hlt))
       (by
        refine ⟨_, e, (0, 0), hnew0, ?_, fun hf => by simp at hf⟩
        intro j y hj
        have hjl : j < (old ++ new).length := (List.getElem?_eq_some_iff.1 hj).1
        have hyd := (allD_iff D _).1 hcd y (List.mem_of_getElem? hj)
        refine ⟨?_, inD_mono (fun _ => .inl) y hyd⟩
        rw [real_agree hag y hyd]
        simp only [Nat.zero_add]
        rw [Array.getElem?_append_left (by simp [reals_length]; simpa using hjl), List.getElem?_toArray, reals_get, hj]
        rfl)
      refine ⟨_, _, .inl (fin (v := .sl h.next 0 (cap + m) (cap + m) true) ?_), hmv.1, hmv.2, by simp only [AV.inD, grow]; exact .inr ⟨Nat.le_refl _, by simp⟩⟩
      rw [show real ρ (.sl b o' cap cap true) = .slice (some ⟨(ρ b).blk, (ρ b).off + o', none⟩) cap (cap + (ρ b).extra) by simp [real], hrun]
      simp only [real, upd_self, cond_true, Nat.zero_add, Nat.add_zero]
      congr 2
      omega
   ·simp at hv
 | _ => rw [hr'] at hv; simp [eK] at hv

theorem copy_case {o : Oper} {c : Call} {s x : Operand} {t : TypeId} {ts : List TypeId} {e : TypeId} {size : Nat} {rs : List Rand} {v : AV} {op : EOp}
  (he : EInv ρ D n env a) (i : Inv P H0 ρ D h w) (ho : o.op = .call c) (hcb : c.callee = .builtin .copy) (hargs : c.args.toList = [s, x]) (htypes : c.argTypes.toList = t :: ts)
  (hu : P.underlying t = some (.slice e)) (hsz : sizeT P e = some size) (hc : one (.e (.copy size)) [s, x] = some (.e op, rs)) (hv : eI op (rs.map env.ev) h = some (v, h')) :
  After P H0 ρ D h w (execOp a.eval o) v h' := by
 obtain ⟨hq, hr⟩ := one_of hc
 simp only [IOp.e.injEq] at hq
 subst hq
 obtain ⟨r, q, rfl, h1, h2⟩ := rands_two hr
 have e1 := rand_real he h1
 have e2 := rand_real he h2
 rw [exec_builtin o c .copy ho hcb, args_map hargs (ys := [real ρ (env.ev r), real ρ (env.ev q)]) (by simp [e1.1, e2.1])]
 simp only [List.map_cons, List.map_nil, eI] at hv
 have hbi : ∀ (l : Array Bool) (xs : List Value), builtin .copy c.argTypes o.type l xs.toArray = (do pure (.value (← Builtin.copy_ c.argTypes o.type xs.toArray))) := fun _ _ => rfl
 rw [hbi, types_of htypes]
 have hsz' : (sizeOf e).run P w = .ok size w := run_sizeOf hsz
 cases hr' : env.ev r with
 | nils =>
  rw [hr'] at hv
  cases hsc : srcCells size h (env.ev q) with
  | none => simp [hsc] at hv
  | some km =>
   obtain ⟨m, new⟩ := km
   simp only [hsc, Option.some.injEq, Prod.mk.injEq] at hv
   obtain ⟨rfl, rfl⟩ := hv
   obtain ⟨hlen, hnd, htake, hnew⟩ := src_real (P := P) i e2.2 hsc
   have h0 : (Builtin.firstCells size 0 (real ρ (env.ev q))).run P w = .ok #[] w := by
    cases hq : env.ev q with
    | str s' => simp [real, Builtin.firstCells]
    | sl b o l c op =>
     have := htake (fun s e => by rw [hq] at e; simp at e) 0 (Nat.zero_le _)
     rw [hq] at this
     simpa [reals] using this
    | nils => simp [real, Builtin.firstCells]
    | wild wa => simp [real, Builtin.firstCells, loadCells, loadCellsFrom]
    | rest b o j => simp [real, Builtin.firstCells, loadCells, loadCellsFrom]
    | _ => rw [hq] at hsc; simp [srcCells] at hsc
   refine ⟨ρ, w, .inl ?_, by rw [grow_self]; exact i, Ext.refl _ _ _ _, by simp [AV.inD]⟩
   simp [Builtin.copy_, run_underlying hu, hlen, hsz', real, Result.andThen, h0, goInt]
 | wild wa =>
  rw [hr'] at hv
  cases hsc : srcCells size h (env.ev q) with
  | none => simp [hsc] at hv
  | some km =>
   obtain ⟨m, new⟩ := km
   simp only [hsc, Option.some.injEq, Prod.mk.injEq] at hv
   obtain ⟨rfl, rfl⟩ := hv
   obtain ⟨hlen, hnd, htake, hnew⟩ := src_real (P := P) i e2.2 hsc
   have h0 : (Builtin.firstCells size 0 (real ρ (env.ev q))).run P w = .ok #[] w := by
    cases hq : env.ev q with
    | str s' => simp [real, Builtin.firstCells]
    | sl b o l c op =>
     have := htake (fun s e => by rw [hq] at e; simp at e) 0 (Nat.zero_le _)
     rw [hq] at this
     simpa [reals] using this
    | nils => simp [real, Builtin.firstCells]
    | wild wa => simp [real, Builtin.firstCells, loadCells, loadCellsFrom]
    | rest b o j => simp [real, Builtin.firstCells, loadCells, loadCellsFrom]
    | _ => rw [hq] at hsc; simp [srcCells] at hsc
   refine ⟨ρ, w, .inl ?_, by rw [grow_self]; exact i, Ext.refl _ _ _ _, by simp [AV.inD]⟩
   simp [Builtin.copy_, run_underlying hu, hlen, hsz', real, Result.andThen, h0, goInt, storeCells]
 | sl b o' len cap opn =>
  rw [hr'] at hv e1
  simp only [AV.inD] at e1
  cases hsc : srcCells size h (env.ev q) with
  | none => simp [hsc] at hv
  | some km =>
   obtain ⟨m, new⟩ := km
   simp only [hsc, Option.map_eq_some_iff, Prod.mk.injEq] at hv
   obtain ⟨h2, hst, rfl, rfl⟩ := hv
   obtain ⟨hlen, hnd, htake, hnew⟩ := src_real (P := P) i e2.2 hsc
   have htd : allD D (new.take (min m len * size)) := by
    rw [allD_iff] at hnd ⊢
    exact fun y hy => hnd y (List.mem_of_mem_take hy)
   have hfc : (Builtin.firstCells size (min m len) (real ρ (env.ev q))).run P w = .ok (reals ρ (new.take (min m len * size))).toArray w := by
    cases hq : env.ev q with
    | str s' =>
     rw [hq] at hsc
     simp only [srcCells] at hsc
     cases h1 : Nat.beq size 1 with
     | false => simp [h1] at hsc
     | true =>
      simp only [h1, cond_true, Option.some.injEq, Prod.mk.injEq] at hsc
      obtain ⟨rfl, rfl⟩ := hsc
      have hs1 := Nat.eq_of_beq_eq_true h1
      subst hs1
      simp only [Builtin.firstCells, real, Sem.run_pure]
      congr 1
      have : (⟨s'.toArray⟩ : ByteArray).extract 0 (min s'.length len) = ⟨(s'.take (min s'.length len)).toArray⟩ := by
       apply ByteArray.ext
       rw [ByteArray.data_extract]
       apply Array.ext'
       simp [List.extract_eq_take_drop]
      rw [this]
      apply Array.ext'
      simp [reals_eq, real, Function.comp_def, List.map_take]
    | sl b2 o2 l2 c2 op2 =>
     have := htake (fun s e => by rw [hq] at e; simp at e) (min m len) (Nat.min_le_left _ _)
     rw [hq] at this; exact this
    | nils =>
     have := htake (fun s e => by rw [hq] at e; simp at e) (min m len) (Nat.min_le_left _ _)
     rw [hq] at this; exact this
    | wild wa =>
     have := htake (fun s e => by rw [hq] at e; simp at e) (min m len) (Nat.min_le_left _ _)
     rw [hq] at this; exact this
    | rest rb ro rk =>
     have := htake (fun s e => by rw [hq] at e; simp at e) (min m len) (Nat.min_le_left _ _)
     rw [hq] at this; exact this
    | _ => rw [hq] at hsc; simp [srcCells] at hsc
   obtain ⟨hnx, w', hrun, hinv, hext⟩ := store_real (P := P) i e1.2 htd hst
   refine ⟨ρ, w', .inl ?_, by rw [hnx, grow_self]; exact hinv, hext, by simp [AV.inD]⟩
   simp only [real] at hlen hfc ⊢
   simp [Builtin.copy_, run_underlying hu, hlen, hsz', Result.andThen, hfc, hrun, goInt]
   show ((min m len : Nat) : Int) = min (m : Int) len
   omega
 | _ =>
  rw [hr'] at hv
  cases hsc : srcCells size h (env.ev q) with
  | none => simp [hsc] at hv
  | some km => simp [hsc] at hv

theorem putKey_mem {k v : AV} {p : AV × AV} : ∀ {es : List (AV × AV)}, p ∈ putKey k v es → p = (k, v) ∨ p ∈ es
 | [], h => by simp [putKey] at h; exact .inl h
 | (x, u) :: es, h => by
  simp only [putKey] at h
  split at h
  ·rcases List.mem_cons.1 h with h | h
   ·exact .inl h
   ·exact .inr (List.mem_cons_of_mem _ h)
  ·rcases List.mem_cons.1 h with h | h
   ·exact .inr (h ▸ List.mem_cons_self)
   ·rcases putKey_mem h with h | h
    ·exact .inl h
    ·exact .inr (List.mem_cons_of_mem _ h)
theorem ins_run (i : Inv P H0 ρ D h w) {t kt e : TypeId} {kk : IntKind} (hu : P.underlying t = some (.map kt e)) (hk : P.underlying kt = some (.int kk)) {b : Nat} {k v : AV} (hb : D b) (hkd : k.inD D) (hvd : v.inD D) {es : List (AV × AV)} {bs : List Nat} {c : Nat} {r : Option AV} (hg : h.get b = some (.map es bs c)) (hf : findKey k es = some r) :
  ∃ w', (Instr.mapUpdate t (.map (some (ρ b).blk)) (real ρ k) (real ρ v)).run P w = .ok () w' ∧ Inv P H0 ρ D (h.set b (.map (putKey k v es) (bornI r bs c) (clkI r c))) w' ∧ Ext ρ D h w ρ (h.set b (.map (putKey k v es) (bornI r bs c) (clkI r c))) w' := by
 obtain ⟨ms, clock, hcell, hlow, hms, hdom, hck, hbn⟩ := i.blk b _ hb hg
 have hget : (getObj (ρ b).blk).run P w = .ok (.map ms clock) w := by simp [getObj, Sem.run, hcell]
 have hset : ∀ o', (setObj (ρ b).blk o').run P w = .ok () { w with heap := w.heap.setIfInBounds (ρ b).blk o' } := by intro o'; simp [setObj, Sem.run, hcell]
 have hlt := (Array.getElem?_eq_some_iff.1 hcell).1
 have hwr : h.wr b = true := by simp [Heap.wr, hg]
 have hfin : ∀ ms' clock', ms'.toList.map (fun m => (m.key, m.val)) = (putKey k v es).map (fun p => (real ρ p.1, real ρ p.2)) → clock' = clkI r c → ms'.toList.map (fun m => m.born) = bornI r bs c →
   Inv P H0 ρ D (h.set b (.map (putKey k v es) (bornI r bs c) (clkI r c))) { w with heap := w.heap.setIfInBounds (ρ b).blk (.map ms' clock') } ∧ Ext ρ D h w ρ (h.set b (.map (putKey k v es) (bornI r bs c) (clkI r c))) { w with heap := w.heap.setIfInBounds (ρ b).blk (.map ms' clock') } := by
  intro ms' clock' hms' hc' hb'
  refine step_set i hb hwr rfl (by simp) (fun r hr => by simp [Array.getElem?_setIfInBounds, Ne.symm hr]) rfl rfl rfl ?_
  refine ⟨ms', clock', by simp [Array.getElem?_setIfInBounds, hlt], hlow, hms', ?_, hc', hb'⟩
  intro p hp
  rcases putKey_mem hp with rfl | hp
  ·exact ⟨hkd, hvd⟩
  ·exact hdom p hp
 have hn := findNow_real (ρ := ρ) (kk := kk) (v := v) es ms.toList 0 hms hf
 cases r with
 | none =>
  obtain ⟨f1, f2⟩ := hn
  refine ⟨_, ?_, hfin (ms.push { key := real ρ k, val := real ρ v, born := clock }) (clock + 1) ?_ (by rw [hck]; rfl) (by simp [hbn, hck, bornI])⟩
  ·simp only [Instr.mapUpdate, Sem.run_bind, run_underlying hu, Result.andThen, hget, run_ck hk, run_findKey hk f1, hset]
  ·rw [f2]
   simp [hms]
 | some u =>
  obtain ⟨j, f1, f2, -, ⟨kd, kn, hkn⟩, f3⟩ := hn
  have hj : ((ms[j]?).map (·.key)).getD (real ρ k) = real ρ k := by
   rw [Array.getElem?_toList] at f2
   rw [f2]; rfl
  refine ⟨_, ?_, hfin (ms.modify j fun e => { e with key := real ρ k, val := real ρ v }) clock ?_ (by rw [hck]; rfl) ?_⟩
  ·have hst : (Instr.keyThatStays (real ρ k) (real ρ k)).run P w = .ok (real ρ k) w := by
    subst hkn
    simp [Instr.keyThatStays, real, Instr.sameBits]
   simp only [Instr.mapUpdate, Sem.run_bind, run_underlying hu, Result.andThen, hget, run_ck hk, run_findKey hk f1, Nat.zero_add, hj, hst, hset]
  ·rw [← f3]
   simp
  ·show _ = bs
   rw [← hbn]
   apply List.ext_getElem?
   intro n
   simp only [Array.toList_modify, List.getElem?_map, List.getElem?_modify]
   split <;> cases (ms.toList)[n]? <;> rfl
theorem del_real {kk : IntKind} {k : AV} : ∀ (es : List (AV × AV)) (bs : List Nat) (ms : List MapEntry) (i : Nat) {r : Option AV}, ms.map (fun m => (m.key, m.val)) = es.map (fun p => (real ρ p.1, real ρ p.2)) → ms.map (fun m => m.born) = bs → findKey k es = some r →
  match r with
  | none => Instr.findNow (.int kk) (real ρ k) ms i = some none ∧ delKey k es = es ∧ bornD k es bs = bs
  | some _ => ∃ j u', Instr.findNow (.int kk) (real ρ k) ms i = some (some (i + j, u')) ∧ j < ms.length ∧ (ms.eraseIdx j).map (fun m => (m.key, m.val)) = (delKey k es).map (fun p => (real ρ p.1, real ρ p.2)) ∧ (ms.eraseIdx j).map (fun m => m.born) = bornD k es bs
 | [], bs, ms, i, r, hm, hb, hf => by
  simp only [findKey, Option.some.injEq] at hf
  subst hf
  have : ms = [] := by simpa using hm
  subst this
  exact ⟨rfl, rfl, by simp at hb; subst hb; rfl⟩
 | (x, u) :: es, bs, ms, i, r, hm, hb, hf => by
  cases ms with
  | nil => simp at hm
  | cons m ms =>
   cases bs with
   | nil => simp at hb
   | cons b bs =>
   simp only [List.map_cons, List.cons.injEq, Prod.mk.injEq] at hm hb
   obtain ⟨⟨h1, h2⟩, h3⟩ := hm
   simp only [findKey] at hf
   split at hf
   ·rename_i he
    simp only [Option.some.injEq] at hf
    subst hf
    have hs := same_now (ρ := ρ) (kk := kk) he
    refine ⟨0, m.val, by simp only [Instr.findNow, h1, hs, Nat.add_zero], by simp, ?_, ?_⟩
    ·simp only [delKey, he, List.eraseIdx_cons_zero, h3]
    ·simp only [bornD, he, List.eraseIdx_cons_zero, hb.2]
   ·rename_i he
    have hs := same_now (ρ := ρ) (kk := kk) he
    have ih := del_real (kk := kk) es bs ms (i + 1) h3 hb.2 hf
    cases r with
    | none =>
     simp only at ih ⊢
     exact ⟨by simp only [Instr.findNow, h1, hs]; exact ih.1, by simp only [delKey, he, ih.2.1], by simp only [bornD, he, ih.2.2]⟩
    | some u' =>
     simp only at ih ⊢
     obtain ⟨j, v', i1, i2, i3, i4⟩ := ih
     refine ⟨j + 1, v', ?_, by simpa using i2, ?_, ?_⟩
     ·simp only [Instr.findNow, h1, hs]
      rw [i1]
      congr 3
      omega
     ·simp only [delKey, he, List.eraseIdx_cons_succ, List.map_cons, i3, h1, h2]
     ·simp only [bornD, he, List.eraseIdx_cons_succ, List.map_cons, i4, hb.1]
   ·simp at hf
theorem delKey_mem {k : AV} {p : AV × AV} : ∀ {es : List (AV × AV)}, p ∈ delKey k es → p ∈ es
 | [], h => by simp [delKey] at h
 | (x, u) :: es, h => by
  simp only [delKey] at h
  split at h
  ·exact List.mem_cons_of_mem _ h
  ·rcases List.mem_cons.1 h with h | h
   ·exact h ▸ List.mem_cons_self
   ·exact List.mem_cons_of_mem _ (delKey_mem h)
theorem mdel_run (i : Inv P H0 ρ D h w) {t kt e : TypeId} {ty : TypeId} {ts : List TypeId} {kk : IntKind} (hu : P.underlying t = some (.map kt e)) (hk : P.underlying kt = some (.int kk)) {b : Nat} {k : AV} (hb : D b) {es : List (AV × AV)} {bs : List Nat} {c : Nat} {r : Option AV} (hg : h.get b = some (.map es bs c)) (hf : findKey k es = some r) :
  ∃ w', (Builtin.delete_ (t :: ts).toArray ty #[.map (some (ρ b).blk), real ρ k]).run P w = .ok (.tuple #[]) w' ∧ Inv P H0 ρ D (h.set b (.map (delKey k es) (bornD k es bs) c)) w' ∧ Ext ρ D h w ρ (h.set b (.map (delKey k es) (bornD k es bs) c)) w' := by
 obtain ⟨ms, clock, hcell, hlow, hms, hdom, hck, hbn⟩ := i.blk b _ hb hg
 have hget : (getObj (ρ b).blk).run P w = .ok (.map ms clock) w := by simp [getObj, Sem.run, hcell]
 have hset : ∀ o', (setObj (ρ b).blk o').run P w = .ok () { w with heap := w.heap.setIfInBounds (ρ b).blk o' } := by intro o'; simp [setObj, Sem.run, hcell]
 have hlt := (Array.getElem?_eq_some_iff.1 hcell).1
 have hwr : h.wr b = true := by simp [Heap.wr, hg]
 have hfin : ∀ ms' : Array MapEntry, ms'.toList.map (fun m => (m.key, m.val)) = (delKey k es).map (fun p => (real ρ p.1, real ρ p.2)) → ms'.toList.map (fun m => m.born) = bornD k es bs →
   Inv P H0 ρ D (h.set b (.map (delKey k es) (bornD k es bs) c)) { w with heap := w.heap.setIfInBounds (ρ b).blk (.map ms' clock) } ∧ Ext ρ D h w ρ (h.set b (.map (delKey k es) (bornD k es bs) c)) { w with heap := w.heap.setIfInBounds (ρ b).blk (.map ms' clock) } := by
  intro ms' hms' hb'
  refine step_set i hb hwr rfl (by simp) (fun r hr => by simp [Array.getElem?_setIfInBounds, Ne.symm hr]) rfl rfl rfl ?_
  exact ⟨ms', clock, by simp [Array.getElem?_setIfInBounds, hlt], hlow, hms', fun p hp => hdom p (delKey_mem hp), hck, hb'⟩
 have hn := del_real (ρ := ρ) (kk := kk) es bs ms.toList 0 hms hbn hf
 cases r with
 | none =>
  obtain ⟨f1, f2, f3⟩ := hn
  refine ⟨_, ?_, hfin ms (by rw [f2]; exact hms) (by rw [f3]; exact hbn)⟩
  simp only [Builtin.delete_, List.getElem?_toArray, List.getElem?_cons_zero, List.getElem?_cons_succ, Sem.run_bind, run_underlying hu, Result.andThen, hget, run_ck hk, run_findKey hk f1, hset, Sem.run_pure]
 | some u =>
  obtain ⟨j, u', f1, f2, f3, f4⟩ := hn
  have he : (ms.eraseIdxIfInBounds j).toList = ms.toList.eraseIdx j := by simp [Array.eraseIdxIfInBounds, show j < ms.size from f2]
  refine ⟨_, ?_, hfin (ms.eraseIdxIfInBounds j) (by rw [he]; exact f3) (by rw [he]; exact f4)⟩
  simp only [Builtin.delete_, List.getElem?_toArray, List.getElem?_cons_zero, List.getElem?_cons_succ, Sem.run_bind, run_underlying hu, Result.andThen, hget, run_ck hk, run_findKey hk f1, Nat.zero_add, hset, Sem.run_pure]
theorem clear_run (i : Inv P H0 ρ D h w) {b o len : Nat} {zs : List AV} (hb : D b) (hz : allD D zs) (hs : h.storeN b o (zerosN zs len) = some h') :
  h'.next = h.next ∧ ∃ w', (storeCells ⟨(ρ b).blk, (ρ b).off + o, none⟩ (reals ρ (zerosN zs len))).run P w = .ok () w' ∧ Inv P H0 ρ D h' w' ∧ Ext ρ D h w ρ h' w' := by
 refine store_real i hb ?_ hs
 rw [allD_iff]
 intro x hx
 obtain ⟨j, hj⟩ := List.mem_iff_getElem?.1 hx
 have hl : j < len * zs.length := by
  have := (List.getElem?_eq_some_iff.1 hj).1
  rwa [zerosN_length] at this
 rw [zerosN_get zs len j hl] at hj
 exact (allD_iff D zs).1 hz x (List.mem_of_getElem? hj)

theorem hasN_iff (b : Nat) : ∀ (l : List Nat), hasN b l = true ↔ b ∈ l
 | [] => by simp [hasN]
 | c :: l => by
  simp only [hasN]
  cases hc : Nat.beq c b with
  | true => have := Nat.eq_of_beq_eq_true hc; simp [this]
  | false =>
   have : c ≠ b := fun e => by rw [e, Nat.beq_refl] at hc; simp at hc
   simp only [cond_false, hasN_iff b l, List.mem_cons]
   exact ⟨.inr, fun h => h.resolve_left fun e => this e.symm⟩
theorem contains_real {sn : Array Nat} {seen : List Nat} (hs : sn.toList = seen) (b : Nat) : sn.contains b = hasN b seen := by
 rw [Bool.eq_iff_iff, hasN_iff, ← hs]
 simp
theorem left_real {sn : Array Nat} {seen bs : List Nat} {ms : Array MapEntry} (hs : sn.toList = seen) (hb : ms.toList.map (fun m => m.born) = bs) : (leftOf ms sn).toList.map (fun m => m.born) = leftB seen bs := by
 have hc : (fun e : MapEntry => !sn.contains e.born) = fun e => !hasN e.born seen := funext fun e => by rw [contains_real hs]
 unfold leftOf
 rw [Array.toList_filter, ← hb, hc]
 generalize ms.toList = l
 induction l with
 | nil => rfl
 | cons m l ih =>
  simp only [List.filter_cons, List.map_cons, leftB]
  cases hh : hasN m.born seen with
  | true => simpa [hh] using ih
  | false => simpa [hh] using ih
theorem anyLt_real {last : Nat} : ∀ {l : List MapEntry}, anyLt last (l.map fun m => m.born) = true → l.all (fun x => decide (x.born ≥ last)) = false
 | [], h => by simp [anyLt] at h
 | m :: l, h => by
  simp only [List.map_cons, anyLt] at h
  cases hb : Nat.ble (m.born + 1) last with
  | true =>
   have := Nat.le_of_ble_eq_true hb
   have : ¬ last ≤ m.born := by omega
   simp [this]
  | false =>
   rw [hb] at h
   simp only [cond_false] at h
   simp only [List.all_cons, anyLt_real h, Bool.and_false]
theorem iterOk_real {sn : Array Nat} {seen bs : List Nat} {last : Nat} {ms : Array MapEntry} (hs : sn.toList = seen) (hb : ms.toList.map (fun m => m.born) = bs) (h : iterOk seen last bs = true) :
  (!sn.isEmpty && !ms.isEmpty && ms.all fun x => decide (x.born ≥ last)) = false := by
 unfold iterOk at h
 simp only [Bool.or_eq_true] at h
 rcases h with (h | h) | h
 ·have : sn.isEmpty = true := by rw [← Array.isEmpty_toList, hs]; exact h
  simp [this]
 ·have : ms.isEmpty = true := by
   rw [← Array.isEmpty_toList]
   rw [List.isEmpty_iff] at h ⊢
   rw [h] at hb
   simpa using hb
  simp [this]
 ·rw [← hb] at h
  have := anyLt_real h
  rw [Array.all_toList] at this
  rw [this]
  simp
theorem next_none (w : World) (ty : TypeId) {r bm since c0 : Nat} {seen : Array Nat} {es : Array MapEntry} {clock : Nat}
  (hr : w.heap[r]? = some (.mapIter (some bm) since seen c0)) (hb : w.heap[bm]? = some (.map es clock)) (ht : (!seen.isEmpty && !es.isEmpty && es.all fun x => decide (x.born ≥ c0)) = false) (hl : leftOf es seen = #[]) :
  (Instr.next (.pointer (some ⟨r, 0, none⟩)) false ty).run P w = .ok (.tuple #[.bool false]) w := by
 unfold leftOf at hl
 simp only [Instr.next, getObj, Sem.run_bind, Sem.run, hr, hb, Result.andThen, ht, Bool.false_eq_true, if_false, hl]
 simp [choose, Sem.run, Question.forced]
theorem next_some (w : World) (ty : TypeId) {r bm since c0 : Nat} {seen : Array Nat} {es : Array MapEntry} {clock : Nat}
  (hr : w.heap[r]? = some (.mapIter (some bm) since seen c0)) (hb : w.heap[bm]? = some (.map es clock)) (ht : (!seen.isEmpty && !es.isEmpty && es.all fun x => decide (x.born ≥ c0)) = false)
  (hmem : ∀ x ∈ (leftOf es seen).toList, x.born < since) (h0 : (leftOf es seen).size ≠ 0) :
  ∃ e ∈ (leftOf es seen).toList, ∃ w1 : World, (w1 = w ∨ w1 = w.drew) ∧ (Instr.next (.pointer (some ⟨r, 0, none⟩)) false ty).run P w = .ok (.tuple #[.bool true, e.key, e.val]) { w1 with heap := w1.heap.setIfInBounds r (.mapIter (some bm) since (seen.push e.born) clock) } := by
 simp only [Instr.next, getObj, Sem.run_bind, Sem.run, hr, hb, Result.andThen, ht, Bool.false_eq_true, if_false]
 unfold leftOf at hmem h0 ⊢
 generalize Array.filter (fun e => !seen.contains e.born) es = L at hmem h0 ⊢
 have e1 : L.filter (fun x => decide (x.born < since)) = L := Array.filter_eq_self.2 (fun x hx => by simpa using hmem x (by simpa using hx))
 have e2 : L.filter (fun x => decide (x.born ≥ since)) = #[] := by
  rw [Array.filter_eq_empty_iff]
  intro x hx
  have := hmem x (by simpa using hx)
  simp
  omega
 simp only [e1, e2, Array.append_empty]
 have hne : L.isEmpty = false := by simp [Array.isEmpty, h0]
 simp only [hne, Bool.false_eq_true, if_false, Array.empty_append, Array.size_map]
 have hch : ∃ (j : Nat) (w1 : World), j < L.size ∧ (w1 = w ∨ w1 = w.drew) ∧ (choose (Question.mapNext L.size)).run P w = .ok j w1 := by
  by_cases hf : L.size ≤ 1
  ·exact ⟨0, w, by omega, Or.inl rfl, by simp [choose, Sem.run, Question.forced, hf]⟩
  ·exact ⟨_, w.drew, Nat.mod_lt _ (by omega), Or.inr rfl, by
    simp only [choose, Sem.run, Question.forced, decide_eq_true_eq, hf, if_false, Question.cut]
    rfl⟩
 obtain ⟨j, w1, hj, hal, hrun⟩ := hch
 refine ⟨L[j], by simp, w1, hal, ?_⟩
 have hr1 : w1.heap[r]? = some (.mapIter (some bm) since seen c0) := by rcases hal with rfl | rfl <;> exact hr
 have hset : ∀ o', (setObj r o').run P w1 = .ok () { w1 with heap := w1.heap.setIfInBounds r o' } := by intro o'; simp [setObj, Sem.run, hr1]
 simp only [hrun, Array.getElem?_map, Array.getElem?_eq_getElem hj, Option.map_some, Sem.run_bind, hset, Result.andThen]
 rfl
theorem nextL_mem {it m since : Nat} {seen : List Nat} {c : Nat} {e : MapEntry} : ∀ (es : List (AV × AV)) (bs : List Nat) (ms : List MapEntry), ms.map (fun m => (m.key, m.val)) = es.map (fun p => (real ρ p.1, real ρ p.2)) → ms.map (fun m => m.born) = bs →
  (∀ p ∈ es, p.1.inD D ∧ p.2.inD D) → e ∈ ms → hasN e.born seen = false →
  ∃ k u, (AV.tup [.bool true, k, u], h.set it (.iter m since (seen ++ [e.born]) c)) ∈ nextL h it m since seen c bs es ∧ real ρ k = e.key ∧ real ρ u = e.val ∧ k.inD D ∧ u.inD D
 | [], bs, ms, hm, hb, hd, he, hn => by
  have : ms = [] := by simpa using hm
  subst this
  simp at he
 | (k, u) :: es, [], ms, hm, hb, hd, he, hn => by
  have : ms = [] := by simpa using hb
  subst this
  simp at he
 | (k, u) :: es, b :: bs, [], hm, hb, hd, he, hn => by simp at he
 | (k, u) :: es, b :: bs, x :: ms, hm, hb, hd, he, hn => by
  simp only [List.map_cons, List.cons.injEq, Prod.mk.injEq] at hm hb
  simp only [nextL]
  rcases List.mem_cons.1 he with rfl | he
  ·rw [← hb.1, hn]
   simp only [cond_false]
   exact ⟨k, u, List.mem_cons_self, hm.1.1.symm, hm.1.2.symm, (hd _ List.mem_cons_self).1, (hd _ List.mem_cons_self).2⟩
  ·obtain ⟨k', u', g1, g2⟩ := nextL_mem (it := it) (m := m) (since := since) (c := c) es bs ms hm.2 hb.2 (fun p hp => hd p (List.mem_cons_of_mem _ hp)) he hn
   refine ⟨k', u', ?_, g2⟩
   cases hasN b seen with
   | true => exact g1
   | false => exact List.mem_cons_of_mem _ g1
theorem allLt_mem {n b : Nat} : ∀ {l : List Nat}, allLt n l = true → b ∈ l → b < n
 | [], _, hb => by simp at hb
 | c :: l, h, hb => by
  simp only [allLt] at h
  cases hc : Nat.ble (c + 1) n with
  | false => rw [hc] at h; simp at h
  | true =>
   rw [hc] at h
   rcases List.mem_cons.1 hb with rfl | hb
   ·exact Nat.le_of_ble_eq_true hc
   ·exact allLt_mem h hb
theorem nextC_sound {o : Oper} {rs : List Rand} {cs : List (AV × Heap)} (he : EInv ρ D n env a) (i : Inv P H0 ρ D h w) (hc : compOp P o.op = some (.e .next, rs)) (hv : nextC (rs.map env.ev) h = some cs) :
  ∃ p ∈ cs, After P H0 ρ D h w (execOp a.eval o) p.1 p.2 ∧ p.2.next = h.next := by
 have key : ∃ it, o.op = .next it false ∧ one (.e .next) [it] = some (.e .next, rs) := by
  cases ho : o.op <;> rw [ho] at hc
  case next it s =>
   cases s with
   | true => simp [compOp] at hc
   | false => exact ⟨it, rfl, by simpa only [compOp] using hc⟩
  case makeMap t r =>
   exfalso
   cases r with
   | none => simp only [compOp] at hc; obtain ⟨hq, _⟩ := one_of hc; simp at hq
   | some r => simp [compOp] at hc
  case unOp u t x =>
   exfalso
   cases u <;> simp only [compOp] at hc <;> first
    | (obtain ⟨_, _, h2⟩ := one_some hc; simp at h2; done)
    | (simp at hc; done)
  all_goals (exfalso; simp only [compOp] at hc)
  all_goals repeat' (first
   | (simp only [Option.bind_eq_some_iff] at hc; obtain ⟨_, _, hc⟩ := hc)
   | (simp only [Option.map_eq_some_iff] at hc; obtain ⟨_, _, hc⟩ := hc; simp at hc; done)
   | (obtain ⟨_, _, h2⟩ := one_some hc; simp at h2; done)
   | (obtain ⟨hq, _⟩ := one_of hc; simp at hq; done)
   | (simp at hc; done)
   | (split at hc))
 obtain ⟨it, ho, hc⟩ := key
 obtain ⟨-, hr⟩ := one_of hc
 obtain ⟨r, rfl, h1⟩ := rands_one hr
 have e1 := rand_real he h1
 simp only [List.map_cons, List.map_nil] at hv
 have hx : ∃ it', env.ev r = .ptr it' 0 := by
  cases hx : env.ev r with
  | ptr it' oo => cases oo with
   | zero => exact ⟨it', rfl⟩
   | succ oo => rw [hx] at hv; simp [nextC] at hv
  | _ => rw [hx] at hv; simp [nextC] at hv
 obtain ⟨it', hx⟩ := hx
 rw [hx] at e1 hv
 simp only [AV.inD] at e1
 simp only [nextC] at hv
 split at hv
 ·rename_i m since seen last hg
  split at hv
  ·rename_i es bs cl hm
   cases hb : (iterOk seen last bs && allLt since (leftB seen bs) && !(leftB seen bs).isEmpty) with
   | false => simp [hb] at hv
   | true =>
    simp only [hb, cond_true, Option.some.injEq] at hv
    subst hv
    simp only [Bool.and_eq_true, Bool.not_eq_true'] at hb
    obtain ⟨hlow, hdm, ho0, sn, hcell, hsn⟩ := i.blk it' _ e1.2 hg
    obtain ⟨ms, clock, hcell2, _, hms, hdom, hck, hbn⟩ := i.blk m _ hdm hm
    have hleft := left_real (sn := sn) (ms := ms) hsn hbn
    obtain ⟨e, hel, w1, hw1, hrun⟩ := next_some (P := P) w o.type hcell hcell2 (iterOk_real hsn hbn hb.1.1)
     (fun x hx => allLt_mem hb.1.2 (by rw [← hleft]; exact List.mem_map_of_mem hx)) (fun h0 => by
      rw [← hleft] at hb
      have : (leftOf ms sn).toList = [] := List.eq_nil_of_length_eq_zero (by simpa using h0)
      rw [this] at hb
      simp at hb)
    have hem : e ∈ ms.toList ∧ hasN e.born seen = false := by
     unfold leftOf at hel
     rw [Array.toList_filter, List.mem_filter] at hel
     refine ⟨hel.1, ?_⟩
     rw [← contains_real hsn]
     simpa using hel.2
    obtain ⟨k, u, g1, g2, g3, g4, g5⟩ := nextL_mem (h := h) (it := it') (m := m) (since := since) (c := cl) es bs ms.toList hms hbn hdom hem.1 hem.2
    refine ⟨_, g1, ?_, rfl⟩
    have hlt := (Array.getElem?_eq_some_iff.1 hcell).1
    have hh1 : w1.heap = w.heap := by rcases hw1 with rfl | rfl <;> rfl
    have ht1 : w1.tape = w.tape := by rcases hw1 with rfl | rfl <;> rfl
    have hos1 : w1.os = w.os := by rcases hw1 with rfl | rfl <;> rfl
    have hou1 : w1.output = w.output := by rcases hw1 with rfl | rfl <;> rfl
    have hst := step_set (w' := { w1 with heap := w1.heap.setIfInBounds (ρ it').blk (.mapIter (some (ρ m).blk) since (sn.push e.born) clock) }) i e1.2 (x := .iter m since (seen ++ [e.born]) cl) (by simp [Heap.wr, hg]) rfl
     (by simp [hh1]) (fun r hr => by simp [Array.getElem?_setIfInBounds, Ne.symm hr, hh1]) ht1 hos1 hou1 ⟨hlow, hdm, ho0, sn.push e.born, by simp [Array.getElem?_setIfInBounds, hh1, hlt, hck], by simp [hsn]⟩
    refine ⟨ρ, _, .inl ?_, by rw [show (h.set it' (.iter m since (seen ++ [e.born]) cl)).next = h.next from rfl, grow_self]; exact hst.1, hst.2, by simp only [AV.inD, allD, and_true, true_and]; exact ⟨inD_mono (fun _ => .inl) _ g4, inD_mono (fun _ => .inl) _ g5⟩⟩
    unfold execOp; rw [ho]
    simp only [e1.1, real, Nat.add_zero, ho0, Sem.run_bind]
    rw [hrun]
    simp [Result.andThen, reals, real, g2, g3]
  ·simp at hv
 ·simp at hv

theorem eI_sound {o : Oper} {op : EOp} {rs : List Rand} {v : AV} (he : EInv ρ D n env a) (i : Inv P H0 ρ D h w) (hc : compOp P o.op = some (.e op, rs)) (hv : eI op (rs.map env.ev) h = some (v, h')) :
  After P H0 ρ D h w (execOp a.eval o) v h' := by
 cases ho : o.op <;> rw [ho] at hc
 case store t x y =>
  simp only [compOp, Option.bind_eq_some_iff] at hc
  obtain ⟨k, hk, hc⟩ := hc
  obtain ⟨hq, hr⟩ := one_of hc
  simp only [IOp.e.injEq] at hq
  subst hq
  obtain ⟨r, q, rfl, h1, h2⟩ := rands_two hr
  have e1 := rand_real he h1
  have e2 := rand_real he h2
  simp only [List.map_cons, List.map_nil] at hv
  cases hr' : env.ev r with
  | ptr b o' =>
   rw [hr'] at hv e1
   simp only [AV.inD] at e1
   simp only [eI] at hv
   cases hb : Nat.beq (env.ev q).cells.length k with
   | false => simp [hb] at hv
   | true =>
    simp only [hb, cond_true, Option.map_eq_some_iff, Prod.mk.injEq] at hv
    obtain ⟨h2', hst, rfl, rfl⟩ := hv
    have hkl := Nat.eq_of_beq_eq_true hb
    obtain ⟨hnx, w', hrun, hinv, hext⟩ := store_real (P := P) i e1.2 (cells_inD e2.2) hst
    refine ⟨ρ, w', .inr ⟨?_, rfl⟩, by rw [hnx, grow_self]; exact hinv, hext, by simp [AV.undef, AV.inD, allD]⟩
    unfold execOp; rw [ho]
    simp only [e1.1, e2.1, real, Instr.storeAt, Instr.sureAddr, Sem.run_bind, Sem.run_pure, Result.andThen, storeVar, real_cells, run_sizeOf hk]
    rw [if_neg (by simp [reals_length, hkl])]
    simp only [hrun, List.toList_toArray]
  | _ => rw [hr'] at hv; simp [eI] at hv
 case mapUpdate t m k x =>
  simp only [compOp] at hc
  split at hc
  ·rename_i kt e hu
   split at hc
   ·rename_i kk hk
    obtain ⟨hq, hr⟩ := one_of hc
    simp only [IOp.e.injEq] at hq
    subst hq
    obtain ⟨r1, r2, r3, rfl, h1, h2, h3⟩ := rands_three hr
    have e1 := rand_real he h1
    have e2 := rand_real he h2
    have e3 := rand_real he h3
    simp only [List.map_cons, List.map_nil] at hv
    cases hr' : env.ev r1 with
    | map b =>
     rw [hr'] at hv e1
     simp only [AV.inD] at e1
     simp only [eI] at hv
     split at hv
     ·rename_i es bs c hg
      split at hv
      ·rename_i r hf
       simp only [Option.some.injEq, Prod.mk.injEq] at hv
       obtain ⟨rfl, rfl⟩ := hv
       obtain ⟨w', hrun, hinv, hext⟩ := ins_run i hu hk e1.2 e2.2 e3.2 hg hf
       refine ⟨ρ, w', .inr ⟨?_, rfl⟩, by rw [show (h.set b (.map (putKey (env.ev r2) (env.ev r3) es) (bornI r bs c) (clkI r c))).next = h.next from rfl, grow_self]; exact hinv, hext, by simp [AV.undef, AV.inD, allD]⟩
       unfold execOp; rw [ho]
       simp only [e1.1, e2.1, e3.1, real, Sem.run_bind, hrun, Result.andThen, Sem.run_pure]
      ·simp at hv
     ·simp at hv
    | _ => rw [hr'] at hv; simp [eI] at hv
   ·exfalso; obtain ⟨hq, _⟩ := one_of hc; simp at hq
   ·exfalso; obtain ⟨hq, _⟩ := one_of hc; simp at hq
   ·simp at hc
  ·simp at hc
 case insert t m k x =>
  simp only [compOp] at hc
  split at hc
  ·rename_i kt e hu
   split at hc
   ·rename_i kk hk
    obtain ⟨hq, hr⟩ := one_of hc
    simp only [IOp.e.injEq] at hq
    subst hq
    obtain ⟨r1, r2, r3, rfl, h1, h2, h3⟩ := rands_three hr
    have e1 := rand_real he h1
    have e2 := rand_real he h2
    have e3 := rand_real he h3
    simp only [List.map_cons, List.map_nil] at hv
    cases hr' : env.ev r1 with
    | map b =>
     rw [hr'] at hv e1
     simp only [AV.inD] at e1
     simp only [eI] at hv
     split at hv
     ·rename_i es bs c hg
      split at hv
      ·rename_i r hf
       simp only [Option.some.injEq, Prod.mk.injEq] at hv
       obtain ⟨rfl, rfl⟩ := hv
       obtain ⟨w', hrun, hinv, hext⟩ := ins_run i hu hk e1.2 e2.2 e3.2 hg hf
       refine ⟨ρ, w', .inr ⟨?_, rfl⟩, by rw [show (h.set b (.map (putKey (env.ev r2) (env.ev r3) es) (bornI r bs c) (clkI r c))).next = h.next from rfl, grow_self]; exact hinv, hext, by simp [AV.undef, AV.inD, allD]⟩
       unfold execOp; rw [ho]
       simp only [e1.1, e2.1, e3.1, real, Sem.run_bind, hrun, Result.andThen, Sem.run_pure]
      ·simp at hv
     ·simp at hv
    | _ => rw [hr'] at hv; simp [eI] at hv
   ·exfalso; obtain ⟨hq, _⟩ := one_of hc; simp at hq
   ·exfalso; obtain ⟨hq, _⟩ := one_of hc; simp at hq
   ·simp at hc
  ·simp at hc
 case call c =>
  simp only [compOp] at hc
  split at hc
  ·simp only [Option.map_eq_some_iff] at hc; obtain ⟨_, _, hc⟩ := hc; simp at hc
  ·simp only [Option.map_eq_some_iff] at hc; obtain ⟨_, _, hc⟩ := hc; simp at hc
  ·rename_i b hcb
   split at hc
   ·exfalso
    repeat' (first
     | (obtain ⟨_, _, h2⟩ := one_some hc; simp at h2; done)
     | (simp at hc; done)
     | (split at hc))
   ·exfalso; obtain ⟨_, _, h2⟩ := one_some hc; simp at h2
   ·exfalso; obtain ⟨_, _, h2⟩ := one_some hc; simp at h2
   ·rename_i s x t u ts hargs htypes
    split at hc
    ·rename_i e d hu hd
     split at hc
     ·simp at hc
     ·rename_i hsrc
      split at hc
      ·rename_i size bytes z hsz hb hz
       split at hc
       ·simp at hc
       ·rename_i hzl
        exact append_case he i ho hcb hargs htypes hu hd (by simpa using hsrc) hsz hb hz (by simpa using hzl) hc hv
      ·simp at hc
    ·simp at hc
   ·rename_i s x t ts hargs htypes
    split at hc
    ·rename_i e hu
     simp only [Option.bind_eq_some_iff] at hc
     obtain ⟨size, hsz, hc⟩ := hc
     exact copy_case he i ho hcb hargs htypes hu hsz hc hv
    ·simp at hc
   ·rename_i x t hargs htypes
    split at hc
    ·rename_i e hu
     simp only [Option.bind_eq_some_iff] at hc
     obtain ⟨z, hz, hc⟩ := hc
     obtain ⟨hq, hr⟩ := one_of hc
     simp only [IOp.e.injEq] at hq
     subst hq
     obtain ⟨r, rfl, h1⟩ := rands_one hr
     have e1 := rand_real he h1
     have hzv := run_zeroValue (P := P) (w := w) hz ρ D
     simp only [List.map_cons, List.map_nil] at hv
     rw [exec_builtin o c .clear ho hcb, args_map hargs (ys := [real ρ (env.ev r)]) (by simp [e1.1])]
     have hbi : ∀ (l : Array Bool) (xs : List Value), builtin .clear c.argTypes o.type l xs.toArray = (do pure (.value (← Builtin.clear_ c.argTypes o.type xs.toArray))) := fun _ _ => rfl
     rw [hbi, types_of htypes]
     cases hr' : env.ev r with
     | nils =>
      rw [hr'] at hv
      simp only [eI, Option.some.injEq, Prod.mk.injEq] at hv
      obtain ⟨rfl, rfl⟩ := hv
      refine ⟨ρ, w, .inl ?_, by rw [grow_self]; exact i, Ext.refl _ _ _ _, by simp [AV.undef, AV.inD, allD]⟩
      simp [Builtin.clear_, run_underlying hu, real, Result.andThen, AV.undef, reals]
     | sl b o' len cap op =>
      rw [hr'] at hv e1
      simp only [AV.inD] at e1
      simp only [eI, Option.map_eq_some_iff, Prod.mk.injEq] at hv
      obtain ⟨h2, hst, rfl, rfl⟩ := hv
      obtain ⟨hnx, w', hrun, hinv, hext⟩ := clear_run (P := P) i e1.2 (cells_inD hzv.2) hst
      refine ⟨ρ, w', .inl ?_, by rw [hnx, grow_self]; exact hinv, hext, by simp [AV.undef, AV.inD, allD]⟩
      have hz2 : (Builtin.zeroCells (real ρ z).cells len).toList = reals ρ (zerosN z.cells len) := by
       rw [Builtin.zeroCells, real_cells, zerosN_real ρ z.cells len _ (by simp [reals_length])]
      cases len with
      | zero =>
       have hw : w' = w := by
        simp [zerosN, reals, storeCells] at hrun
        exact hrun.symm
       subst hw
       simp [Builtin.clear_, run_underlying hu, real, Result.andThen, AV.undef, reals]
      | succ len =>
       simp only [Builtin.clear_, real, List.getElem?_toArray, List.getElem?_cons_zero, Sem.run_bind, run_underlying hu, Result.andThen, hzv.1, hz2, hrun, Sem.run_pure, AV.undef, reals]
     | _ => rw [hr'] at hv; simp [eI] at hv
    ·exfalso; obtain ⟨hq, _⟩ := one_of hc; simp at hq
    ·simp at hc
   ·rename_i m k t ts hargs htypes
    split at hc
    ·rename_i kt e hu
     split at hc
     ·rename_i kk hk
      obtain ⟨hq, hr⟩ := one_of hc
      simp only [IOp.e.injEq] at hq
      subst hq
      obtain ⟨r1, r2, rfl, h1, h2⟩ := rands_two hr
      have e1 := rand_real he h1
      have e2 := rand_real he h2
      simp only [List.map_cons, List.map_nil] at hv
      rw [exec_builtin o c .delete ho hcb, args_map hargs (ys := [real ρ (env.ev r1), real ρ (env.ev r2)]) (by simp [e1.1, e2.1])]
      have hbi : ∀ (l : Array Bool) (xs : List Value), builtin .delete c.argTypes o.type l xs.toArray = (do pure (.value (← Builtin.delete_ c.argTypes o.type xs.toArray))) := fun _ _ => rfl
      rw [hbi, types_of htypes]
      cases hr' : env.ev r1 with
      | map b =>
       rw [hr'] at hv e1
       simp only [AV.inD] at e1
       simp only [eI] at hv
       split at hv
       ·rename_i es bs cl hg
        split at hv
        ·rename_i q hf
         simp only [Option.some.injEq, Prod.mk.injEq] at hv
         obtain ⟨rfl, rfl⟩ := hv
         obtain ⟨w', hrun, hinv, hext⟩ := mdel_run (ty := o.type) (ts := ts) i hu hk e1.2 hg hf
         refine ⟨ρ, w', .inl ?_, by rw [show (h.set b (.map (delKey (env.ev r2) es) (bornD (env.ev r2) es bs) cl)).next = h.next from rfl, grow_self]; exact hinv, hext, by simp [AV.inD, allD]⟩
         simp only [real, Sem.run_bind]
         rw [hrun]
         simp [Result.andThen, reals]
        ·simp at hv
       ·simp at hv
      | _ => rw [hr'] at hv; simp [eI] at hv
     ·simp at hc
    ·simp at hc
   ·simp at hc
 case range t x =>
  simp only [compOp] at hc
  split at hc
  ·rename_i kt e hu
   obtain ⟨hq, hr⟩ := one_of hc
   simp only [IOp.e.injEq] at hq
   subst hq
   obtain ⟨r, rfl, h1⟩ := rands_one hr
   have e1 := rand_real he h1
   simp only [List.map_cons, List.map_nil] at hv
   cases hr' : env.ev r with
   | map b =>
    rw [hr'] at hv e1
    simp only [AV.inD] at e1
    simp only [eI] at hv
    split at hv
    ·rename_i es bs cl hg
     simp only [Option.some.injEq, Prod.mk.injEq] at hv
     obtain ⟨rfl, rfl⟩ := hv
     obtain ⟨ms, clock, hcell, hlow, hms, hdom, hck, hbn⟩ := i.blk b _ e1.2 hg
     have hlt := i.lt b e1.2
     have hst := step_new (w' := w.alloc (.mapIter (some (ρ b).blk) clock #[] clock)) i (.iter b cl [] cl) 0 (.mapIter (some (ρ b).blk) clock #[] clock) rfl rfl rfl rfl
      ⟨i.low, .inl e1.2, rfl, #[], by rw [upd_ne _ _ (by omega), ← hck]; exact alloc_new _ _, rfl⟩
     refine ⟨_, _, .inl ?_, hst.1, hst.2, by simp [AV.inD, grow]⟩
     unfold execOp; rw [ho]
     simp only [e1.1, real, Instr.range, Sem.run_bind, run_underlying hu, Result.andThen, getObj, Sem.run, hcell, newObj, upd_self]
     rfl
    ·simp at hv
   | _ => rw [hr'] at hv; simp [eI] at hv
  ·simp at hc
 case next it s =>
  cases s with
  | true => simp [compOp] at hc
  | false =>
   simp only [compOp] at hc
   obtain ⟨hq, hr⟩ := one_of hc
   simp only [IOp.e.injEq] at hq
   subst hq
   obtain ⟨r, rfl, h1⟩ := rands_one hr
   have e1 := rand_real he h1
   simp only [List.map_cons, List.map_nil] at hv
   have hx : ∃ it', env.ev r = .ptr it' 0 := by
    cases hx : env.ev r with
    | ptr it' oo => cases oo with
     | zero => exact ⟨it', rfl⟩
     | succ oo => rw [hx] at hv; simp [eI] at hv
    | _ => rw [hx] at hv; simp [eI] at hv
   obtain ⟨it', hx⟩ := hx
   rw [hx] at e1 hv
   simp only [AV.inD] at e1
   simp only [eI] at hv
   split at hv
   ·rename_i m since seen last hg
    split at hv
    ·rename_i es bs cl hm
     cases hb : (iterOk seen last bs && (leftB seen bs).isEmpty) with
     | false => simp [hb] at hv
     | true =>
      simp only [hb, cond_true, Option.some.injEq, Prod.mk.injEq] at hv
      obtain ⟨rfl, rfl⟩ := hv
      simp only [Bool.and_eq_true] at hb
      obtain ⟨_, hdm, ho0, sn, hcell, hsn⟩ := i.blk it' _ e1.2 hg
      obtain ⟨ms, clock, hcell2, _, hms, hdom, hck, hbn⟩ := i.blk m _ hdm hm
      have hst := step_del i e1.2
      refine ⟨ρ, w, .inl ?_, by rw [show (h.del it').next = h.next from rfl, grow_self]; exact hst.1, hst.2, by simp [AV.inD, allD]⟩
      unfold execOp; rw [ho]
      have hl : leftOf ms sn = #[] := by
       have := left_real (sn := sn) hsn hbn
       rw [List.isEmpty_iff.1 hb.2] at this
       exact Array.eq_empty_of_size_eq_zero (by simpa using congrArg List.length this)
      have := next_none (P := P) w o.type hcell hcell2 (iterOk_real hsn hbn hb.1) hl
      simp only [e1.1, real, Nat.add_zero, ho0, Sem.run_bind]
      rw [this]
      simp [Result.andThen, reals, real]
    ·simp at hv
   ·simp at hv
 case unOp u t x =>
  exfalso
  cases u <;> simp only [compOp] at hc <;> first
   | (obtain ⟨_, _, h2⟩ := one_some hc; simp at h2; done)
   | (simp at hc; done)
 case makeMap t r =>
  exfalso
  cases r with
  | none => simp only [compOp] at hc; obtain ⟨hq, _⟩ := one_of hc; simp at hq
  | some r => simp [compOp] at hc
 all_goals (exfalso; simp only [compOp] at hc)
 all_goals repeat' (first
  | (simp only [Option.bind_eq_some_iff] at hc; obtain ⟨_, _, hc⟩ := hc)
  | (simp only [Option.map_eq_some_iff] at hc; obtain ⟨_, _, hc⟩ := hc; simp at hc; done)
  | (obtain ⟨_, _, h2⟩ := one_some hc; simp at h2; done)
  | (simp at hc; done)
  | (split at hc))

theorem eK_sound {o : Oper} {op : EOp} {rs : List Rand} {v : AV} (he : EInv ρ D n env a) (i : Inv P H0 ρ D h w) (hc : compOp P o.op = some (.e op, rs)) (hv : eK op (rs.map env.ev) h = some (v, h')) :
  After P H0 ρ D h w (execOp a.eval o) v h' := by
 cases op with
 | append size bytes =>
  cases ho : o.op
  case call c =>
   rw [ho] at hc
   simp only [compOp] at hc
   split at hc
   ·simp only [Option.map_eq_some_iff] at hc; obtain ⟨_, _, hc⟩ := hc; simp at hc
   ·simp only [Option.map_eq_some_iff] at hc; obtain ⟨_, _, hc⟩ := hc; simp at hc
   ·rename_i b hcb
    split at hc
    ·exfalso
     repeat' (first
      | (obtain ⟨_, _, h2⟩ := one_some hc; simp at h2; done)
      | (simp at hc; done)
      | (split at hc))
    ·exfalso; obtain ⟨_, _, h2⟩ := one_some hc; simp at h2
    ·exfalso; obtain ⟨_, _, h2⟩ := one_some hc; simp at h2
    ·rename_i s x t u ts hargs htypes
     split at hc
     ·rename_i e d hu hd
      split at hc
      ·simp at hc
      ·rename_i hsrc
       split at hc
       ·rename_i size' bytes' z hsz hb hz
        split at hc
        ·simp at hc
        ·rename_i hzl
         obtain ⟨hq, hr⟩ := one_of hc
         simp only [IOp.e.injEq, EOp.append.injEq] at hq
         obtain ⟨rfl, rfl⟩ := hq
         exact appendK_case he i ho hcb hargs htypes hu hd (by simpa using hsrc) hsz hb hz (by simpa using hzl) hr hv
       ·simp at hc
     ·simp at hc
    ·exfalso
     repeat' (first
      | (simp only [Option.bind_eq_some_iff] at hc; obtain ⟨_, _, hc⟩ := hc)
      | (obtain ⟨hq, _⟩ := one_of hc; simp at hq; done)
      | (simp at hc; done)
      | (split at hc))
    ·exfalso
     repeat' (first
      | (simp only [Option.bind_eq_some_iff] at hc; obtain ⟨_, _, hc⟩ := hc)
      | (obtain ⟨hq, _⟩ := one_of hc; simp at hq; done)
      | (simp at hc; done)
      | (split at hc))
    ·exfalso
     repeat' (first
      | (simp only [Option.bind_eq_some_iff] at hc; obtain ⟨_, _, hc⟩ := hc)
      | (obtain ⟨hq, _⟩ := one_of hc; simp at hq; done)
      | (simp at hc; done)
      | (split at hc))
    ·simp at hc
  case unOp u t x =>
   exfalso
   rw [ho] at hc
   cases u <;> simp only [compOp] at hc <;> first
    | (obtain ⟨_, _, h2⟩ := one_some hc; simp at h2; done)
    | (simp at hc; done)
  case next it s =>
   exfalso
   rw [ho] at hc
   cases s with
   | true => simp [compOp] at hc
   | false => simp only [compOp] at hc; obtain ⟨hq, _⟩ := one_of hc; simp at hq
  case makeMap t r =>
   exfalso
   rw [ho] at hc
   cases r with
   | none => simp only [compOp] at hc; obtain ⟨hq, _⟩ := one_of hc; simp at hq
   | some r => simp [compOp] at hc
  all_goals (exfalso; rw [ho] at hc; simp only [compOp] at hc)
  all_goals repeat' (first
   | (simp only [Option.bind_eq_some_iff] at hc; obtain ⟨_, _, hc⟩ := hc)
   | (simp only [Option.map_eq_some_iff] at hc; obtain ⟨_, _, hc⟩ := hc; simp at hc; done)
   | (obtain ⟨_, _, h2⟩ := one_some hc; simp at h2; done)
   | (obtain ⟨hq, _⟩ := one_of hc; simp at hq; done)
   | (simp at hc; done)
   | (split at hc))
 | _ => simp [eK] at hv
end
end Ads
end Go.Proofs.Ytlndlbngfgaoeaa

