/-
  Operations that look at no memory, one by one: what the model runs is what 'pI' says.
-/
import Derived.Test.YtflmbknimebmnaaAdsPure
namespace Go.Proofs.Ytflmbknimebmnaa
namespace Ads
section
variable {P : Program} {ρ : Rho} {D : Dom} {w : World}

/-- What an operation must come to. -/
def Val (P : Program) (ρ : Rho) (D : Dom) (w : World) (s : Sem Next) (v : AV) : Prop := s.run P w = .ok (.value (real ρ v)) w ∧ v.inD D

theorem val_of {s : Sem Value} {v : AV} (h : s.run P w = .ok (real ρ v) w) (hd : v.inD D) : Val P ρ D w (do pure (.value (← s))) v := by
  refine ⟨?_, hd⟩
  rw [Sem.run_bind, h]; rfl

theorem run_mapM {α β : Type} (g : α → Sem β) (r : α → β) : ∀ (l : List α), (∀ x ∈ l, (g x).run P w = .ok (r x) w) → (l.mapM g).run P w = .ok (l.map r) w
  | [], _ => by simp
  | x :: xs, h => by
    rw [List.mapM_cons, Sem.run_bind, h x (List.mem_cons_self ..)]
    simp only [Result.andThen]
    rw [Sem.run_bind, run_mapM g r xs (fun y hy => h y (List.mem_cons_of_mem _ hy))]
    simp [Result.andThen]

theorem run_mapM_array {α β : Type} (g : α → Sem β) (r : α → β) (l : Array α) (h : ∀ x ∈ l.toList, (g x).run P w = .ok (r x) w) : (l.mapM g).run P w = .ok (l.map r) w := by
  obtain ⟨l⟩ := l
  rw [List.mapM_toArray, Sem.run_map, run_mapM g r l h]
  simp [Result.andThen]

theorem foldl_splice : ∀ (xs : List Value) (k off : Nat) (cs : Array Value), off + k + xs.length ≤ cs.size →
    (xs.zipIdx k).foldl (fun cs (p : Value × Nat) => cs.setIfInBounds (off + p.2) p.1) cs = (Heap.splice cs.toList (off + k) xs).toArray
  | [], k, off, cs, _ => by simp [Heap.splice_nil]
  | x :: xs, k, off, cs, h => by
    simp only [List.zipIdx_cons, List.foldl_cons]
    rw [foldl_splice xs (k + 1) off _ (by simp at h ⊢; omega), Heap.splice_cons _ _ _ _ (by simp at h ⊢; omega)]
    simp [Nat.add_assoc]

theorem array_foldl_splice (xs : Array Value) (off : Nat) (cs : Array Value) (h : off + xs.size ≤ cs.size) :
    xs.zipIdx.foldl (fun cs (p : Value × Nat) => cs.setIfInBounds (off + p.2) p.1) cs = (Heap.splice cs.toList off xs.toList).toArray := by
  obtain ⟨xs⟩ := xs
  have := foldl_splice xs 0 off cs (by simpa using h)
  simp only [Nat.add_zero] at this
  rw [← this]
  simp

/-- Parts laid over zeros, in both worlds. 'pl': each part's place, by its index. -/
theorem fill_real {pl : Nat → Option (Nat × Nat)} : ∀ {idx : List Nat} {places : List (Nat × Nat)} {vals : List AV} {cs out : List AV},
    idx.map pl = places.map some → fill cs places vals = some out → allD D vals → allD D cs →
    Instr.fill pl (reals ρ cs).toArray (idx.zip (reals ρ vals)) = some (reals ρ out).toArray ∧ allD D out ∧ out.length = cs.length
  | [], [], [], cs, out, _, h, _, hc => by simp [fill] at h; subst h; simp [Instr.fill, hc]
  | [], [], _ :: _, cs, out, _, h, _, _ => by simp [fill] at h
  | [], _ :: _, _, cs, out, hp, _, _, _ => by simp at hp
  | _ :: _, [], _, cs, out, hp, _, _, _ => by simp at hp
  | i :: idx, (o, k) :: places, [], cs, out, _, h, _, _ => by simp [fill] at h
  | i :: idx, (o, k) :: places, v :: vals, cs, out, hp, h, hv, hc => by
    simp only [List.map_cons, List.cons.injEq] at hp
    simp only [fill] at h
    cases hb : (Nat.beq v.cells.length k && Nat.ble (o + k) cs.length) with
    | false => simp [hb] at h
    | true =>
      simp only [hb, cond_true] at h
      simp only [Bool.and_eq_true] at hb
      have h1 : v.cells.length = k := Nat.eq_of_beq_eq_true hb.1
      have h2 := Nat.le_of_ble_eq_true hb.2
      simp only [allD] at hv
      have hsp : allD D (Heap.splice cs o v.cells) := by
        rw [allD_iff] at hc ⊢
        have hcv := (allD_iff D _).1 (cells_inD hv.1)
        intro x hx
        obtain ⟨j, hj⟩ := List.mem_iff_getElem?.1 hx
        rw [Heap.get_splice _ _ _ _ (by omega)] at hj
        split at hj
        · exact hcv x (List.mem_of_getElem? hj)
        · exact hc x (List.mem_of_getElem? hj)
      have ih := fill_real hp.2 h hv.2 hsp
      refine ⟨?_, ih.2.1, by rw [ih.2.2, Heap.length_splice]⟩
      simp only [reals, List.zip_cons_cons, Instr.fill, hp.1]
      rw [real_cells]
      have hsz : (reals ρ v.cells).toArray.size = k := by simp [reals_length, h1]
      rw [if_neg]
      rotate_left
      · simp [hsz, reals_length]; omega
      rw [array_foldl_splice _ _ _ (by rw [hsz]; simp [reals_length]; omega)]
      have e : Heap.splice (reals ρ cs) o (reals ρ v.cells) = reals ρ (Heap.splice cs o v.cells) := by simp only [reals_eq, Heap.splice_map]
      simp only [e]
      exact ih.1

theorem parts_inv {place : Nat → Option (Nat × Nat)} {env : Env} {a : Act} {n : Nat} (he : EInv ρ D n env a) : ∀ {ps : List (Nat × Operand)} {pls : List (Nat × Nat)} {rs : List Rand},
    partsOf ps place = some (pls, rs) → (ps.map (·.1)).map place = pls.map some ∧ (ps.map fun p => a.eval p.2) = reals ρ (rs.map env.ev) ∧ allD D (rs.map env.ev)
  | [], pls, rs, h => by simp [partsOf] at h; obtain ⟨rfl, rfl⟩ := h; simp [reals, allD]
  | (i, x) :: ps, pls, rs, h => by
    simp only [partsOf] at h
    cases h1 : place i with
    | none => simp [h1] at h
    | some p =>
      cases h2 : randOf x with
      | none => simp [h1, h2] at h
      | some r =>
        cases h3 : partsOf ps place with
        | none => simp [h1, h2, h3] at h
        | some q =>
          obtain ⟨pls', rs'⟩ := q
          simp only [h1, h2, h3, Option.some.injEq, Prod.mk.injEq] at h
          obtain ⟨rfl, rfl⟩ := h
          have ih := parts_inv he h3
          have hr := rand_real he h2
          simp only [List.map_cons, reals, allD]
          exact ⟨by rw [ih.1, h1], by rw [ih.2.1, hr.1], hr.2, ih.2.2⟩

theorem zip_map_pair {α β γ : Type} (f : β → γ) : ∀ (l : List (α × β)), (l.map fun p => (p.1, f p.2)) = (l.map (·.1)).zip (l.map fun p => f p.2)
  | [] => rfl
  | x :: xs => by simp [zip_map_pair f xs]

variable {n : Nat} {env : Env} {a : Act}

theorem run_underlying' {t : TypeId} {d : TypeDesc} (h : P.underlying t = some d) : (underlying t).run P w = .ok d w := run_underlying h w

theorem bin_real {op : BinOp} {o1 o2 : Operand} {t : TypeId} {x y v : AV} (h : binA op x y = some v) :
    ((do eqGuard op t o1 o2 (real ρ x) (real ρ y); binOp op t (real ρ x) (real ρ y) : Sem Value)).run P w = .ok (real ρ v) w ∧ v.inD D := by
  cases x with
  | int k p =>
    cases y with
    | int k' q =>
      have hg : (eqGuard op t o1 o2 (.int k p) (.int k' q)).run P w = .ok () w := by
        unfold eqGuard
        cases op <;> simp
      simp only [real, Sem.run_bind, hg, Result.andThen]
      simp only [binA] at h
      cases hs : isShift op with
      | true =>
        simp only [hs, cond_true] at h
        unfold binShift at h
        by_cases hq : q < 0
        · simp [hq] at h
        · simp only [hq, decide_false, cond_false] at h
          cases op <;> simp [isShift] at hs <;> simp at h <;> subst h <;> simp [binOp, Op.shift, hq, real, AV.inD]
      | false =>
        simp only [hs, cond_false] at h
        by_cases hk : k = k'
        · subst hk
          simp only [decide_true, cond_true] at h
          cases op <;> simp [isShift] at hs <;> simp only [binInt, Option.some.injEq] at h
          case quo =>
            by_cases hq : q = 0
            · simp [hq] at h
            · simp [hq] at h
              subst h; simp [binOp, Op.intDiv, hq, real, AV.inD]
          case rem =>
            by_cases hq : q = 0
            · simp [hq] at h
            · simp [hq] at h
              subst h; simp [binOp, Op.intDiv, hq, real, AV.inD]
          all_goals first
            | (subst h; simp [binOp, Op.intArith, Op.intBits, Op.intCmp, real, AV.inD]; done)
            | simp at h
        · simp [hk] at h
    | _ => simp [binA] at h
  | str s =>
    cases y with
    | str s' =>
      have hg : (eqGuard op t o1 o2 (.string ⟨s.toArray⟩) (.string ⟨s'.toArray⟩)).run P w = .ok () w := by
        unfold eqGuard
        cases op <;> simp
      simp only [real, Sem.run_bind, hg, Result.andThen]
      simp only [binA] at h
      cases op <;> simp only [binStr, Option.some.injEq] at h
      case add =>
        cases hb : Nat.ble (s.length + s'.length) 9223372036854775807 with
        | false => simp [hb] at h
        | true =>
          simp only [hb, cond_true, Option.some.injEq] at h
          subst h
          have hle := Nat.le_of_ble_eq_true hb
          simp only [binOp]
          rw [run_string_add_sum w _ _ (by simp only [ByteArray.size, List.size_toArray]; omega)]
          refine ⟨?_, by simp [AV.inD]⟩
          simp only [real]
          congr 2
      all_goals first
        | (subst h; simp [binOp, Op.stringOp, real, AV.inD, ByteArray.toList_mk]; done)
        | simp at h
    | _ => simp [binA] at h
  | _ => simp [binA] at h

end
end Ads
end Go.Proofs.Ytflmbknimebmnaa
