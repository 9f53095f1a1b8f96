/-
  Operations that look at no memory: what the model runs is what 'pI' says.
  Operations that look at no memory, one by one: what the model runs is what 'pI' says.
  What the model runs of an operation without memory is what 'pI' says: all of them.
  The other operations without memory.
  Slices, interfaces, functions' values, len, max, min; all operations without memory together.
  All operations without memory together.
-/
import Derived.Test.YtglmcmjionhikaaGreatAdsStep
namespace Go.Proofs.YtglmcmjionhikaaGreat
namespace Ads
section
variable {P : Program} {H0 : Nat} {ρ : Rho} {D : Dom} {h : Heap} {w : World}

/-- A frame's slots. -/
structure EInv (ρ : Rho) (D : Dom) (n : Nat) (env : Env) (a : Act) : Prop where
  size : a.tmps.size = n
  get : ∀ i, a.tmps.getD i Go.undef = real ρ (env.get i)
  dom : ∀ i, (env.get i).inD D

mutual
theorem avOf_real (ρ : Rho) (D : Dom) : ∀ (f : Nat) (v : Value) (x : AV), avOf f v = some x → real ρ x = v ∧ x.inD D
  | 0, _, _, h => by simp [avOf] at h
  | f + 1, v, x, h => by
    cases v with
    | bool b => simp [avOf] at h; subst h; simp [real, AV.inD]
    | int k n => simp [avOf] at h; subst h; simp [real, AV.inD]
    | float k b => simp [avOf] at h
    | complex k a b => simp [avOf] at h
    | string s => simp [avOf] at h; subst h; cases s; simp [real, AV.inD]
    | pointer a =>
      cases a with
      | none => simp [avOf] at h; subst h; simp [real, AV.inD]
      | some a => simp [avOf] at h
    | slice a l c =>
      cases a with
      | some a => simp [avOf] at h
      | none =>
        cases l with
        | succ l => simp [avOf] at h
        | zero =>
          cases c with
          | succ c => simp [avOf] at h
          | zero => simp [avOf] at h; subst h; simp [real, AV.inD]
    | map r =>
      cases r with
      | none => simp [avOf] at h; subst h; simp [real, AV.inD]
      | some a => simp [avOf] at h
    | chan r => simp [avOf] at h
    | func fn a c =>
      cases fn with
      | func g =>
        simp only [avOf] at h
        cases ha : avsOf f a.toList with
        | none => simp [ha] at h
        | some xs =>
          cases hc : avsOf f c.toList with
          | none => simp [ha, hc] at h
          | some ys =>
            simp [ha, hc] at h
            subst h
            have h1 := avsOf_real ρ D f _ _ ha
            have h2 := avsOf_real ρ D f _ _ hc
            simp [real, AV.inD, h1, h2]
      | _ => simp [avOf] at h
    | nilFunc => simp [avOf] at h; subst h; simp [real, AV.inD]
    | iface t v =>
      simp only [avOf, Option.map_eq_some_iff] at h
      obtain ⟨y, hy, rfl⟩ := h
      have := avOf_real ρ D f v y hy
      simp [real, AV.inD, this]
    | nilIface => simp [avOf] at h; subst h; simp [real, AV.inD]
    | agg cs =>
      simp only [avOf, Option.map_eq_some_iff] at h
      obtain ⟨y, hy, rfl⟩ := h
      have := avsOf_real ρ D f _ y hy
      simp [real, AV.inD, this]
    | tuple cs =>
      simp only [avOf, Option.map_eq_some_iff] at h
      obtain ⟨y, hy, rfl⟩ := h
      have := avsOf_real ρ D f _ y hy
      simp [real, AV.inD, this]
theorem avsOf_real (ρ : Rho) (D : Dom) : ∀ (f : Nat) (l : List Value) (xs : List AV), avsOf f l = some xs → reals ρ xs = l ∧ allD D xs
  | 0, _, _, h => by simp [avsOf] at h
  | f + 1, [], xs, h => by simp [avsOf] at h; subst h; simp [reals, allD]
  | f + 1, v :: vs, xs, h => by
    simp only [avsOf] at h
    cases ha : avOf f v with
    | none => simp [ha] at h
    | some y =>
      cases hc : avsOf f vs with
      | none => simp [ha, hc] at h
      | some ys =>
        simp [ha, hc] at h
        subst h
        have h1 := avOf_real ρ D f _ _ ha
        have h2 := avsOf_real ρ D f _ _ hc
        simp [reals, allD, h1, h2]
end

variable {n : Nat} {env : Env} {a : Act}

theorem rand_real (he : EInv ρ D n env a) {x : Operand} {r : Rand} (hr : randOf x = some r) : a.eval x = real ρ (env.ev r) ∧ (env.ev r).inD D := by
  cases x with
  | tmp t => simp [randOf] at hr; subst hr; exact ⟨he.get t, he.dom t⟩
  | const v =>
    simp only [randOf, Option.map_eq_some_iff] at hr
    obtain ⟨y, hy, rfl⟩ := hr
    have := avOf_real ρ D _ v y hy
    exact ⟨this.1.symm, this.2⟩
  | global g => simp [randOf] at hr
  | func f => simp [randOf] at hr; subst hr; simp [Act.eval, Env.ev, real, reals, AV.inD, allD]

theorem rands_real (he : EInv ρ D n env a) : ∀ {xs : List Operand} {rs : List Rand}, randsOf xs = some rs → xs.map a.eval = reals ρ (rs.map env.ev) ∧ allD D (rs.map env.ev)
  | [], rs, h => by simp [randsOf] at h; subst h; simp [reals, allD]
  | x :: xs, rs, h => by
    simp only [randsOf] at h
    cases h1 : randOf x with
    | none => simp [h1] at h
    | some r =>
      cases h2 : randsOf xs with
      | none => simp [h1, h2] at h
      | some rs' =>
        simp [h1, h2] at h
        subst h
        have e1 := rand_real he h1
        have e2 := rands_real he h2
        simp only [List.map_cons, reals, allD]
        exact ⟨by rw [e1.1, e2.1], e1.2, e2.2⟩

theorem rands_one {x : Operand} {rs : List Rand} (h : randsOf [x] = some rs) : ∃ r, rs = [r] ∧ randOf x = some r := by
  simp only [randsOf] at h
  cases h1 : randOf x with
  | none => simp [h1] at h
  | some r => simp [h1] at h; exact ⟨r, h.symm, rfl⟩

theorem rands_cons {x : Operand} {xs : List Operand} {rs : List Rand} (h : randsOf (x :: xs) = some rs) : ∃ r rs', rs = r :: rs' ∧ randOf x = some r ∧ randsOf xs = some rs' := by
  simp only [randsOf] at h
  cases h1 : randOf x with
  | none => simp [h1] at h
  | some r =>
    cases h2 : randsOf xs with
    | none => simp [h1, h2] at h
    | some rs' => simp [h1, h2] at h; exact ⟨r, rs', h.symm, rfl, rfl⟩

theorem rands_two {x y : Operand} {rs : List Rand} (h : randsOf [x, y] = some rs) : ∃ r s, rs = [r, s] ∧ randOf x = some r ∧ randOf y = some s := by
  obtain ⟨r, rs', rfl, h1, h2⟩ := rands_cons h
  obtain ⟨s, rfl, h3⟩ := rands_one h2
  exact ⟨r, s, rfl, h1, h3⟩

theorem rands_three {x y z : Operand} {rs : List Rand} (h : randsOf [x, y, z] = some rs) : ∃ r s t, rs = [r, s, t] ∧ randOf x = some r ∧ randOf y = some s ∧ randOf z = some t := by
  obtain ⟨r, rs', rfl, h1, h2⟩ := rands_cons h
  obtain ⟨s, t, rfl, h3⟩ := rands_two h2
  exact ⟨r, s, t, rfl, h1, h3⟩

theorem one_some {op : IOp} {xs : List Operand} {p : IOp × List Rand} (h : one op xs = some p) : ∃ rs, randsOf xs = some rs ∧ p = (op, rs) := by
  simp only [one, Option.map_eq_some_iff] at h
  obtain ⟨rs, h1, h2⟩ := h
  exact ⟨rs, h1, h2.symm⟩

theorem run_typeInfo {t : TypeId} {i : TypeInfo} (h : P.info? t = some i) : (typeInfo t).run P w = .ok i w := by simp [typeInfo, h]
theorem run_sizeOf {t : TypeId} {k : Nat} (h : sizeT P t = some k) : (sizeOf t).run P w = .ok k w := by
  simp only [sizeT, Option.map_eq_some_iff] at h
  obtain ⟨i, hi, rfl⟩ := h
  simp [sizeOf, run_typeInfo hi]
theorem run_isAgg {t : TypeId} {g : Bool} (h : isAggT P t = some g) : (isAgg t).run P w = .ok g w := by
  simp only [isAggT, Option.map_eq_some_iff] at h
  obtain ⟨d, hd, rfl⟩ := h
  unfold isAgg
  rw [Sem.run_bind, run_underlying hd]
  cases d <;> rfl
theorem run_zeroValue {t : TypeId} {z : AV} (h : zeroT P t = some z) (ρ : Rho) (D : Dom) : (zeroValue t).run P w = .ok (real ρ z) w ∧ z.inD D := by
  unfold zeroT at h
  cases hi : P.info? t with
  | none => simp [hi] at h
  | some i =>
    simp only [hi, Option.bind_eq_some_iff] at h
    obtain ⟨v, hv, hz⟩ := h
    have := avOf_real ρ D _ v z hz
    exact ⟨by simp [zeroValue, run_typeInfo hi, hv, this.1], this.2⟩

theorem add_real (L : Loc) (o k : Nat) : Addr.add ⟨L.blk, L.off + o, none⟩ k = ⟨L.blk, L.off + (o + k), none⟩ := by
  unfold Addr.add; split
  · rename_i e; subst e; rfl
  · simp [Nat.add_assoc]

theorem asNat_int {v : AV} {i : Nat} (h : asNat v = some i) : ∃ k, v = .int k (i : Int) := by
  cases v with
  | int k n =>
    cases n with
    | ofNat m => simp [asNat] at h; subst h; exact ⟨k, rfl⟩
    | negSucc m => simp [asNat] at h
  | _ => simp [asNat] at h

theorem reals_length (ρ : Rho) (l : List AV) : (reals ρ l).length = l.length := by rw [reals_eq]; simp
theorem reals_get (ρ : Rho) (l : List AV) (i : Nat) : (reals ρ l)[i]? = (l[i]?).map (real ρ) := by rw [reals_eq, List.getElem?_map]
theorem reals_take (ρ : Rho) (l : List AV) (k : Nat) : reals ρ (l.take k) = (reals ρ l).take k := by simp [reals_eq]
theorem reals_drop (ρ : Rho) (l : List AV) (k : Nat) : reals ρ (l.drop k) = (reals ρ l).drop k := by simp [reals_eq]
theorem reals_append (ρ : Rho) (l m : List AV) : reals ρ (l ++ m) = reals ρ l ++ reals ρ m := by simp [reals_eq]

theorem part_real {t : TypeId} {g : Bool} {k off : Nat} {cs : List AV} {v : AV} (hg : isAggT P t = some g) (hk : sizeT P t = some k) (hp : part cs off k g = some v) (hd : allD D cs) :
    (Go.part t (reals ρ cs).toArray off).run P w = .ok (real ρ v) w ∧ v.inD D := by
  unfold Go.part
  rw [Sem.run_bind, run_isAgg hg]
  simp only [Result.andThen]
  unfold part at hp
  cases g with
  | true =>
    simp only [cond_true] at hp
    cases hb : Nat.ble (off + k) cs.length with
    | false => simp [hb] at hp
    | true =>
      simp only [hb, cond_true, Option.some.injEq] at hp
      subst hp
      have hle := Nat.le_of_ble_eq_true hb
      simp only [if_true, Sem.run_bind, run_sizeOf hk, Result.andThen, Sem.run_pure, real, AV.inD]
      refine ⟨?_, ?_⟩
      · congr 2
        rw [reals_take, reals_drop]
        apply Array.ext'
        simp [List.extract_eq_take_drop]
      · rw [allD_iff] at hd ⊢
        exact fun x hx => hd x (List.mem_of_mem_drop (List.mem_of_mem_take hx))
  | false =>
    simp only [cond_false] at hp
    have : (reals ρ cs).toArray[off]? = some (real ρ v) := by
      rw [List.getElem?_toArray, reals_get, hp]; rfl
    refine ⟨by simp only [Bool.false_eq_true, if_false, this, Sem.run_pure], (allD_iff D cs).1 hd v (List.mem_of_getElem? hp)⟩

end
end Ads
end Go.Proofs.YtglmcmjionhikaaGreat

namespace Go.Proofs.YtglmcmjionhikaaGreat
namespace Ads
section
variable {P : Program} {ρ : Rho} {D : Dom} {w : World}

/-- What an operation must come to. -/
def Val (P : Program) (ρ : Rho) (D : Dom) (w : World) (s : Sem Next) (v : AV) : Prop := s.run P w = .ok (.value (real ρ v)) w ∧ v.inD D

theorem val_of {s : Sem Value} {v : AV} (h : s.run P w = .ok (real ρ v) w) (hd : v.inD D) : Val P ρ D w (do pure (.value (← s))) v := by
  refine ⟨?_, hd⟩
  rw [Sem.run_bind, h]; rfl

theorem run_mapM {α β : Type} (g : α → Sem β) (r : α → β) : ∀ (l : List α), (∀ x ∈ l, (g x).run P w = .ok (r x) w) → (l.mapM g).run P w = .ok (l.map r) w
  | [], _ => by simp
  | x :: xs, h => by
    rw [List.mapM_cons, Sem.run_bind, h x (List.mem_cons_self ..)]
    simp only [Result.andThen]
    rw [Sem.run_bind, run_mapM g r xs (fun y hy => h y (List.mem_cons_of_mem _ hy))]
    simp [Result.andThen]

theorem run_mapM_array {α β : Type} (g : α → Sem β) (r : α → β) (l : Array α) (h : ∀ x ∈ l.toList, (g x).run P w = .ok (r x) w) : (l.mapM g).run P w = .ok (l.map r) w := by
  obtain ⟨l⟩ := l
  rw [List.mapM_toArray, Sem.run_map, run_mapM g r l h]
  simp [Result.andThen]

theorem foldl_splice : ∀ (xs : List Value) (k off : Nat) (cs : Array Value), off + k + xs.length ≤ cs.size →
    (xs.zipIdx k).foldl (fun cs (p : Value × Nat) => cs.setIfInBounds (off + p.2) p.1) cs = (Heap.splice cs.toList (off + k) xs).toArray
  | [], k, off, cs, _ => by simp [Heap.splice_nil]
  | x :: xs, k, off, cs, h => by
    simp only [List.zipIdx_cons, List.foldl_cons]
    rw [foldl_splice xs (k + 1) off _ (by simp at h ⊢; omega), Heap.splice_cons _ _ _ _ (by simp at h ⊢; omega)]
    simp [Nat.add_assoc]

theorem array_foldl_splice (xs : Array Value) (off : Nat) (cs : Array Value) (h : off + xs.size ≤ cs.size) :
    xs.zipIdx.foldl (fun cs (p : Value × Nat) => cs.setIfInBounds (off + p.2) p.1) cs = (Heap.splice cs.toList off xs.toList).toArray := by
  obtain ⟨xs⟩ := xs
  have := foldl_splice xs 0 off cs (by simpa using h)
  simp only [Nat.add_zero] at this
  rw [← this]
  simp

/-- Parts laid over zeros, in both worlds. 'pl': each part's place, by its index. -/
theorem fill_real {pl : Nat → Option (Nat × Nat)} : ∀ {idx : List Nat} {places : List (Nat × Nat)} {vals : List AV} {cs out : List AV},
    idx.map pl = places.map some → fill cs places vals = some out → allD D vals → allD D cs →
    Instr.fill pl (reals ρ cs).toArray (idx.zip (reals ρ vals)) = some (reals ρ out).toArray ∧ allD D out ∧ out.length = cs.length
  | [], [], [], cs, out, _, h, _, hc => by simp [fill] at h; subst h; simp [Instr.fill, hc]
  | [], [], _ :: _, cs, out, _, h, _, _ => by simp [fill] at h
  | [], _ :: _, _, cs, out, hp, _, _, _ => by simp at hp
  | _ :: _, [], _, cs, out, hp, _, _, _ => by simp at hp
  | i :: idx, (o, k) :: places, [], cs, out, _, h, _, _ => by simp [fill] at h
  | i :: idx, (o, k) :: places, v :: vals, cs, out, hp, h, hv, hc => by
    simp only [List.map_cons, List.cons.injEq] at hp
    simp only [fill] at h
    cases hb : (Nat.beq v.cells.length k && Nat.ble (o + k) cs.length) with
    | false => simp [hb] at h
    | true =>
      simp only [hb, cond_true] at h
      simp only [Bool.and_eq_true] at hb
      have h1 : v.cells.length = k := Nat.eq_of_beq_eq_true hb.1
      have h2 := Nat.le_of_ble_eq_true hb.2
      simp only [allD] at hv
      have hsp : allD D (Heap.splice cs o v.cells) := by
        rw [allD_iff] at hc ⊢
        have hcv := (allD_iff D _).1 (cells_inD hv.1)
        intro x hx
        obtain ⟨j, hj⟩ := List.mem_iff_getElem?.1 hx
        rw [Heap.get_splice _ _ _ _ (by omega)] at hj
        split at hj
        · exact hcv x (List.mem_of_getElem? hj)
        · exact hc x (List.mem_of_getElem? hj)
      have ih := fill_real hp.2 h hv.2 hsp
      refine ⟨?_, ih.2.1, by rw [ih.2.2, Heap.length_splice]⟩
      simp only [reals, List.zip_cons_cons, Instr.fill, hp.1]
      rw [real_cells]
      have hsz : (reals ρ v.cells).toArray.size = k := by simp [reals_length, h1]
      rw [if_neg]
      rotate_left
      · simp [hsz, reals_length]; omega
      rw [array_foldl_splice _ _ _ (by rw [hsz]; simp [reals_length]; omega)]
      have e : Heap.splice (reals ρ cs) o (reals ρ v.cells) = reals ρ (Heap.splice cs o v.cells) := by simp only [reals_eq, Heap.splice_map]
      simp only [e]
      exact ih.1

theorem parts_inv {place : Nat → Option (Nat × Nat)} {env : Env} {a : Act} {n : Nat} (he : EInv ρ D n env a) : ∀ {ps : List (Nat × Operand)} {pls : List (Nat × Nat)} {rs : List Rand},
    partsOf ps place = some (pls, rs) → (ps.map (·.1)).map place = pls.map some ∧ (ps.map fun p => a.eval p.2) = reals ρ (rs.map env.ev) ∧ allD D (rs.map env.ev)
  | [], pls, rs, h => by simp [partsOf] at h; obtain ⟨rfl, rfl⟩ := h; simp [reals, allD]
  | (i, x) :: ps, pls, rs, h => by
    simp only [partsOf] at h
    cases h1 : place i with
    | none => simp [h1] at h
    | some p =>
      cases h2 : randOf x with
      | none => simp [h1, h2] at h
      | some r =>
        cases h3 : partsOf ps place with
        | none => simp [h1, h2, h3] at h
        | some q =>
          obtain ⟨pls', rs'⟩ := q
          simp only [h1, h2, h3, Option.some.injEq, Prod.mk.injEq] at h
          obtain ⟨rfl, rfl⟩ := h
          have ih := parts_inv he h3
          have hr := rand_real he h2
          simp only [List.map_cons, reals, allD]
          exact ⟨by rw [ih.1, h1], by rw [ih.2.1, hr.1], hr.2, ih.2.2⟩

theorem zip_map_pair {α β γ : Type} (f : β → γ) : ∀ (l : List (α × β)), (l.map fun p => (p.1, f p.2)) = (l.map (·.1)).zip (l.map fun p => f p.2)
  | [] => rfl
  | x :: xs => by simp [zip_map_pair f xs]

variable {n : Nat} {env : Env} {a : Act}

theorem bin_real {op : BinOp} {o1 o2 : Operand} {t : TypeId} {x y v : AV} (h : binA op x y = some v) :
    ((do eqGuard op t o1 o2 (real ρ x) (real ρ y); binOp op t (real ρ x) (real ρ y) : Sem Value)).run P w = .ok (real ρ v) w ∧ v.inD D := by
  cases x with
  | int k p =>
    cases y with
    | int k' q =>
      have hg : (eqGuard op t o1 o2 (.int k p) (.int k' q)).run P w = .ok () w := by
        unfold eqGuard
        cases op <;> simp
      simp only [real, Sem.run_bind, hg, Result.andThen]
      simp only [binA] at h
      cases hs : isShift op with
      | true =>
        simp only [hs, cond_true] at h
        unfold binShift at h
        by_cases hq : q < 0
        · simp [hq] at h
        · simp only [hq, decide_false, cond_false] at h
          cases op <;> simp [isShift] at hs <;> simp at h <;> subst h <;> simp [binOp, Op.shift, hq, real, AV.inD]
      | false =>
        simp only [hs, cond_false] at h
        by_cases hk : k = k'
        · subst hk
          simp only [decide_true, cond_true] at h
          cases op <;> simp [isShift] at hs <;> simp only [binInt, Option.some.injEq] at h
          case quo =>
            by_cases hq : q = 0
            · simp [hq] at h
            · simp [hq] at h
              subst h; simp [binOp, Op.intDiv, hq, real, AV.inD]
          case rem =>
            by_cases hq : q = 0
            · simp [hq] at h
            · simp [hq] at h
              subst h; simp [binOp, Op.intDiv, hq, real, AV.inD]
          all_goals first
            | (subst h; simp [binOp, Op.intArith, Op.intBits, Op.intCmp, real, AV.inD]; done)
            | simp at h
        · simp [hk] at h
    | _ => simp [binA] at h
  | str s =>
    cases y with
    | str s' =>
      have hg : (eqGuard op t o1 o2 (.string ⟨s.toArray⟩) (.string ⟨s'.toArray⟩)).run P w = .ok () w := by
        unfold eqGuard
        cases op <;> simp
      simp only [real, Sem.run_bind, hg, Result.andThen]
      simp only [binA] at h
      cases op <;> simp only [binStr, Option.some.injEq] at h
      case add =>
        cases hb : Nat.ble (s.length + s'.length) 9223372036854775807 with
        | false => simp [hb] at h
        | true =>
          simp only [hb, cond_true, Option.some.injEq] at h
          subst h
          have hle := Nat.le_of_ble_eq_true hb
          simp only [binOp]
          rw [run_string_add_sum w _ _ (by simp only [ByteArray.size, List.size_toArray]; omega)]
          refine ⟨?_, by simp [AV.inD]⟩
          simp only [real]
          congr 2
      all_goals first
        | (subst h; simp [binOp, Op.stringOp, real, AV.inD, ByteArray.toList_mk]; done)
        | simp at h
    | _ => simp [binA] at h
  | _ => simp [binA] at h

end
end Ads
end Go.Proofs.YtglmcmjionhikaaGreat

namespace Go.Proofs.YtglmcmjionhikaaGreat
namespace Ads
section
variable {P : Program} {ρ : Rho} {D : Dom} {w : World} {n : Nat} {env : Env} {a : Act}

theorem cells_of {c : Bool} {o : Option (List Nat)} {k : EqK} (h : (bif c then none else Option.map EqK.cells o) = some k) : ∃ ks, k = .cells ks := by
  cases c with
  | true => simp at h
  | false =>
    simp only [cond_false, Option.map_eq_some_iff] at h
    obtain ⟨ks, -, rfl⟩ := h
    exact ⟨ks, rfl⟩

theorem run_one {k : Nat} {t : TypeId} {x y : AV} {b : Bool} (hu : (match P.underlying t with | some (.int _) => k = 0 | some .bool => k = 1 | some .string => k = 2 | _ => False)) (h : eqOne k x y = some b) :
    (Op.equalIn 9999 t (real ρ x) (real ρ y)).run P w = .ok b w := by
  unfold Op.equalIn
  cases hd : P.underlying t with
  | none => simp [hd] at hu
  | some d =>
    rw [Sem.run_bind, run_underlying hd]
    simp only [Result.andThen]
    unfold eqOne at h
    split at h
    · rename_i k1 n1 k2 n2
      cases hk : decide (k1 = k2) with
      | false => simp [hk] at h
      | true =>
        have := of_decide_eq_true hk
        subst this
        simp at h
        subst h
        cases d <;> simp [hd] at hu <;> simp [real]
    · simp at h; subst h
      cases d <;> simp [hd] at hu <;> simp [real]
    · simp at h; subst h
      rename_i s1 s2
      cases d <;> simp [hd] at hu
      simp only [real, Sem.run_pure, Result.ok.injEq, and_true]
      show (s1.toArray == s2.toArray) = (s1 == s2)
      simp
    · simp at h
theorem run_cells {X Y : Array Value} : ∀ (fs : List Field) (i : Nat) {ks : List Nat} {xs ys : List AV} {b : Bool}, fieldKs P i fs = some ks → eqCells ks xs ys = some b →
    (∀ j, X[i + j]? = (xs[j]?).map (real ρ)) → (∀ j, Y[i + j]? = (ys[j]?).map (real ρ)) →
    (forIn (m := Sem) fs ((none, ()) : Option Bool × Unit) fun (f : Field) (__s : Option Bool × Unit) =>
      if f.name ≠ "_" then do
        let __do_lift ← Go.part f.type X f.offset
        let __do_lift_1 ← Go.part f.type Y f.offset
        let __do_lift ← Op.equalIn 9999 f.type __do_lift __do_lift_1
        if (!__do_lift) = true then pure (ForInStep.done (some false, ()))
          else pure (ForInStep.yield (none, ()))
      else pure (ForInStep.yield (none, ()))).run P w = .ok (bif b then (none, ()) else (some false, ())) w
  | [], i, ks, xs, ys, b, hk, h, hX, hY => by
    simp only [fieldKs, Option.some.injEq] at hk
    subst hk
    simp only [eqCells, Option.some.injEq] at h
    subst h
    simp
  | f :: fs, i, ks, xs, ys, b, hk, h, hX, hY => by
    simp only [fieldKs] at hk
    cases hc : (f.name != "_" && Nat.beq f.offset i) with
    | false => simp [hc] at hk
    | true =>
      simp only [hc, cond_true] at hk
      simp only [Bool.and_eq_true, bne_iff_ne, ne_eq] at hc
      have hoff := Nat.eq_of_beq_eq_true hc.2
      have hks : ∃ k ks', ks = k :: ks' ∧ fieldKs P (i + 1) fs = some ks' ∧ (match P.underlying f.type with | some (.int _) => k = 0 | some .bool => k = 1 | some .string => k = 2 | _ => False) ∧ isAggT P f.type = some false := by
        split at hk
        · rename_i hu
          simp only [Option.map_eq_some_iff] at hk
          obtain ⟨ks', h1, rfl⟩ := hk
          exact ⟨_, _, rfl, h1, by simp [hu], by simp [isAggT, hu]⟩
        · rename_i hu
          simp only [Option.map_eq_some_iff] at hk
          obtain ⟨ks', h1, rfl⟩ := hk
          exact ⟨_, _, rfl, h1, by simp [hu], by simp [isAggT, hu]⟩
        · rename_i hu
          simp only [Option.map_eq_some_iff] at hk
          obtain ⟨ks', h1, rfl⟩ := hk
          exact ⟨_, _, rfl, h1, by simp [hu], by simp [isAggT, hu]⟩
        · simp at hk
      obtain ⟨k, ks', rfl, hk', hkind, hagg⟩ := hks
      cases xs with
      | nil => simp [eqCells] at h
      | cons x xs =>
        cases ys with
        | nil => simp [eqCells] at h
        | cons y ys =>
          have hx0 := hX 0
          have hy0 := hY 0
          simp only [Nat.add_zero, List.getElem?_cons_zero, Option.map_some] at hx0 hy0
          have hone : ∃ c, eqOne k x y = some c := by
            simp only [eqCells] at h
            split at h
            · exact ⟨_, by assumption⟩
            · exact ⟨_, by assumption⟩
            · simp at h
          obtain ⟨c, hone⟩ := hone
          have hpx : (Go.part f.type X f.offset).run P w = .ok (real ρ x) w := by
            unfold Go.part
            rw [Sem.run_bind, run_isAgg hagg]
            simp only [Result.andThen, Bool.false_eq_true, if_false, hoff, hx0, Sem.run_pure]
          have hpy : (Go.part f.type Y f.offset).run P w = .ok (real ρ y) w := by
            unfold Go.part
            rw [Sem.run_bind, run_isAgg hagg]
            simp only [Result.andThen, Bool.false_eq_true, if_false, hoff, hy0, Sem.run_pure]
          have he := run_one (ρ := ρ) (w := w) hkind hone
          rw [List.forIn_cons, Sem.run_bind]
          simp only [ne_eq, hc.1, not_false_eq_true, if_true]
          rw [Sem.run_bind, hpx]
          simp only [Result.andThen]
          rw [Sem.run_bind, hpy]
          simp only [Result.andThen]
          rw [Sem.run_bind, he]
          simp only [Result.andThen]
          simp only [eqCells, hone] at h
          cases c with
          | false =>
            simp only [Option.some.injEq] at h
            subst h
            simp
          | true =>
            simp only at h
            simp only [Bool.not_true, Bool.false_eq_true, if_false, Sem.run_pure]
            refine run_cells fs (i + 1) hk' h (fun j => ?_) (fun j => ?_)
            · have := hX (j + 1)
              rw [List.getElem?_cons_succ] at this
              rw [← this]; congr 1; omega
            · have := hY (j + 1)
              rw [List.getElem?_cons_succ] at this
              rw [← this]; congr 1; omega

theorem eq_real {k : EqK} {t : TypeId} {x y : AV} {b : Bool} (hk : eqKOf P t = some k) (h : eqA k x y = some b) :
    (Op.equal t (real ρ x) (real ρ y)).run P w = .ok b w := by
  unfold Op.equal Op.maxDepth
  unfold eqKOf at hk
  unfold Op.equalIn
  cases hu : P.underlying t with
  | none => simp [hu] at hk
  | some d =>
    rw [Sem.run_bind, run_underlying hu]
    simp only [Result.andThen]
    unfold eqA at h
    split at h
    case h_24 => simp at h
    case h_1 ks xs ys =>
      cases d <;> simp only [hu, reduceCtorEq, Option.some.injEq] at hk
      case struct fs =>
        cases hst : (P.stoodInHeld t || P.eqGuardType P.depth t) with
        | true => simp [hst] at hk
        | false =>
          simp only [hst, cond_false, Option.map_eq_some_iff, EqK.cells.injEq, exists_eq_right] at hk
          simp only [Bool.or_eq_false_iff] at hst
          simp only [real]
          rw [Sem.run_bind]
          have hr := run_cells (P := P) (ρ := ρ) (w := w) (X := (reals ρ xs).toArray) (Y := (reals ρ ys).toArray) fs.toList 0 hk h (fun j => by rw [Nat.zero_add, List.getElem?_toArray, reals_get]) (fun j => by rw [Nat.zero_add, List.getElem?_toArray, reals_get])
          have hp : (program : Sem Program).run P w = .ok P w := by simp
          rw [hp]
          simp only [Result.andThen, hst.1, Bool.false_eq_true, if_false]
          rw [Sem.run_bind, ← Array.forIn_toList, hr]
          cases b <;> simp [Result.andThen]
    all_goals (cases d <;> simp [hu] at hk <;> first | (obtain ⟨_, hks⟩ := cells_of hk; exact absurd hks (by simp)) | (simp at h <;> subst h <;> simp [real]))

theorem guard_real {op : BinOp} {t : TypeId} {o1 o2 : Operand} {k : EqK} {x y : AV} {b : Bool} (hk : eqKOf P t = some k) (hc : (isConstO o1 || isConstO o2 || !isIfaceT P t) = true)
    (h : eqA k x y = some b) : (eqGuard op t o1 o2 (real ρ x) (real ρ y)).run P w = .ok () w := by
  unfold eqGuard
  cases op
  case eql | neq =>
    simp only [Bool.not_true, Bool.false_eq_true, if_false]
    unfold eqA at h
    split at h
    case h_24 => simp at h
    case h_1 ks xs ys =>
      have hst : P.eqGuardType P.depth t = false := by
        unfold eqKOf at hk
        cases hu : P.underlying t with
        | none => simp [hu] at hk
        | some d =>
          cases d <;> simp only [hu, reduceCtorEq, Option.some.injEq] at hk
          case struct fs =>
            cases hst : (P.stoodInHeld t || P.eqGuardType P.depth t) with
            | true => simp [hst] at hk
            | false =>
              simp only [Bool.or_eq_false_iff] at hst
              exact hst.2
      simp [real, hst, Result.andThen]
    case h_21 =>
      have hi : isIfaceT P t = true := by
        unfold eqKOf at hk; unfold isIfaceT
        cases hu : P.underlying t with
        | none => simp [hu] at hk
        | some d => cases d <;> simp [hu] at hk ⊢ <;> (obtain ⟨_, hks⟩ := cells_of hk; exact absurd hks (by simp))
      simp only [hi, Bool.not_true, Bool.or_false] at hc
      simp only [real]
      cases o1 <;> cases o2 <;> simp [isConstO] at hc ⊢
    all_goals simp [real]
  all_goals rfl

theorem binop_eq {k : EqK} {t : TypeId} {x y : AV} {b : Bool} (h : eqA k x y = some b) :
    binOp .eql t (real ρ x) (real ρ y) = (do pure (.bool (← Op.equal t (real ρ x) (real ρ y)))) ∧
    binOp .neq t (real ρ x) (real ρ y) = (do pure (.bool (!(← Op.equal t (real ρ x) (real ρ y))))) := by
  unfold eqA at h
  split at h
  case h_24 => simp at h
  all_goals (simp only [real]; exact ⟨rfl, rfl⟩)

theorem execOp_bin (o : Oper) (op : BinOp) (t : TypeId) (x y : Operand) (yt : TypeId) (ρv : Operand → Value) (ho : o.op = .binOp op t x y yt) :
    execOp ρv o = (do pure (.value (← (do eqGuard op t x y (ρv x) (ρv y); binOp op t (ρv x) (ρv y) : Sem Value)))) := by
  unfold execOp; rw [ho]

theorem binop_sound {o : Oper} {op : BinOp} {t yt : TypeId} {x y : Operand} {p : POp} {rs : List Rand} {v : AV} (he : EInv ρ D n env a)
    (ho : o.op = .binOp op t x y yt) (hc : compOp P o.op = some (.p p, rs)) (hv : pI p (rs.map env.ev) = some v) : Val P ρ D w (execOp a.eval o) v := by
  rw [execOp_bin o op t x y yt _ ho]
  rw [ho] at hc
  have two : ∀ {q : IOp}, one q [x, y] = some (.p p, rs) → q = .p p ∧ ∃ r s, rs = [r, s] ∧ a.eval x = real ρ (env.ev r) ∧ a.eval y = real ρ (env.ev s) := by
    intro q h
    obtain ⟨rs', h1, h2⟩ := one_some h
    simp only [Prod.mk.injEq] at h2
    obtain ⟨r, s, rfl, hr, hs⟩ := rands_two h1
    exact ⟨h2.1.symm, r, s, h2.2, (rand_real he hr).1, (rand_real he hs).1⟩
  simp only [compOp] at hc
  have eqcase : ∀ (neg : Bool) (k : EqK), eqKOf P t = some k → (isConstO x || isConstO y || !isIfaceT P t) = true → (op = .eql ∧ neg = false ∨ op = .neq ∧ neg = true) →
      (∀ k', P.underlying t ≠ some (.int k')) → P.underlying t ≠ some .string →
      one (.p (cond neg (.neq k) (.eq k))) [x, y] = some (.p p, rs) → Val P ρ D w (do pure (.value (← (do eqGuard op t x y (a.eval x) (a.eval y); binOp op t (a.eval x) (a.eval y) : Sem Value)))) v := by
    intro neg k hk hcc hop hni hns h1
    obtain ⟨hq, r, s, rfl, e1, e2⟩ := two h1
    simp only [IOp.p.injEq] at hq
    subst hq
    simp only [List.map_cons, List.map_nil] at hv
    have hb : ∃ b, eqA k (env.ev r) (env.ev s) = some b ∧ v = .bool (cond neg (!b) b) := by
      cases neg
      · simp only [cond_false, pI, Option.map_eq_some_iff] at hv
        obtain ⟨b, hb, rfl⟩ := hv
        exact ⟨b, hb, rfl⟩
      · simp only [cond_true, pI, Option.map_eq_some_iff] at hv
        obtain ⟨b, hb, rfl⟩ := hv
        exact ⟨b, hb, rfl⟩
    obtain ⟨b, hb, rfl⟩ := hb
    refine val_of ?_ (by simp [AV.inD])
    rw [Sem.run_bind, e1, e2, guard_real hk hcc hb]
    simp only [Result.andThen]
    have heq := eq_real (ρ := ρ) (w := w) hk hb
    rcases hop with ⟨rfl, rfl⟩ | ⟨rfl, rfl⟩
    · rw [(binop_eq hb).1, Sem.run_bind, heq]; simp [Result.andThen, real]
    · rw [(binop_eq hb).2, Sem.run_bind, heq]; simp [Result.andThen, real]
  have bincase : one (.p (.bin op)) [x, y] = some (.p p, rs) → Val P ρ D w (do pure (.value (← (do eqGuard op t x y (a.eval x) (a.eval y); binOp op t (a.eval x) (a.eval y) : Sem Value)))) v := by
    intro h1
    obtain ⟨hq, r, s, rfl, e1, e2⟩ := two h1
    simp only [IOp.p.injEq] at hq
    subst hq
    simp only [List.map_cons, List.map_nil, pI] at hv
    have := bin_real (P := P) (ρ := ρ) (D := D) (w := w) (o1 := x) (o2 := y) (t := t) hv
    rw [e1, e2]
    exact val_of this.1 this.2
  cases hu : P.underlying t with
  | none =>
    simp only [hu] at hc
    cases op <;> simp [eqKOf, hu] at hc
  | some d =>
    by_cases hint : ∃ k, d = .int k
    · obtain ⟨k, rfl⟩ := hint
      simp only [hu] at hc
      exact bincase hc
    · by_cases hstr : d = .string
      · subst hstr
        simp only [hu] at hc
        exact bincase hc
      · have hni : ∀ k', P.underlying t ≠ some (.int k') := by
          intro k' e; rw [hu] at e; simp at e; exact hint ⟨k', e⟩
        have hns : P.underlying t ≠ some .string := by
          intro e; rw [hu] at e; simp at e; exact hstr e
        have hc' : (match op with
            | .eql => if isConstO x || isConstO y || !isIfaceT P t then (eqKOf P t).bind fun k => one (.p (.eq k)) [x, y] else none
            | .neq => if isConstO x || isConstO y || !isIfaceT P t then (eqKOf P t).bind fun k => one (.p (.neq k)) [x, y] else none
            | _ => none) = some (.p p, rs) := by
          revert hc
          cases d <;> first | (exfalso; exact hint ⟨_, rfl⟩) | (exfalso; exact hstr rfl) | (simp only [hu]; exact id)
        cases op <;> simp only at hc' <;> try (simp at hc'; done)
        · split at hc'
          · rename_i hcc
            simp only [Option.bind_eq_some_iff] at hc'
            obtain ⟨k, hk, h1⟩ := hc'
            exact eqcase false k hk hcc (.inl ⟨rfl, rfl⟩) hni hns h1
          · simp at hc'
        · split at hc'
          · rename_i hcc
            simp only [Option.bind_eq_some_iff] at hc'
            obtain ⟨k, hk, h1⟩ := hc'
            exact eqcase true k hk hcc (.inr ⟨rfl, rfl⟩) hni hns h1
          · simp at hc'
end
end Ads
end Go.Proofs.YtglmcmjionhikaaGreat

set_option linter.unusedSimpArgs false
set_option linter.unusedVariables false
namespace Go.Proofs.YtglmcmjionhikaaGreat
namespace Ads
section
variable {P : Program} {ρ : Rho} {D : Dom} {w : World} {n : Nat} {env : Env} {a : Act}

theorem one_one {q : IOp} {x : Operand} {p : POp} {rs : List Rand} (he : EInv ρ D n env a) (h : one q [x] = some (.p p, rs)) :
    q = .p p ∧ ∃ r, rs = [r] ∧ a.eval x = real ρ (env.ev r) ∧ (env.ev r).inD D := by
  obtain ⟨rs', h1, h2⟩ := one_some h
  simp only [Prod.mk.injEq] at h2
  obtain ⟨r, rfl, hr⟩ := rands_one h1
  exact ⟨h2.1.symm, r, h2.2, (rand_real he hr).1, (rand_real he hr).2⟩

theorem one_two {q : IOp} {x y : Operand} {p : POp} {rs : List Rand} (he : EInv ρ D n env a) (h : one q [x, y] = some (.p p, rs)) :
    q = .p p ∧ ∃ r s, rs = [r, s] ∧ a.eval x = real ρ (env.ev r) ∧ a.eval y = real ρ (env.ev s) ∧ (env.ev r).inD D ∧ (env.ev s).inD D := by
  obtain ⟨rs', h1, h2⟩ := one_some h
  simp only [Prod.mk.injEq] at h2
  obtain ⟨r, s, rfl, hr, hs⟩ := rands_two h1
  exact ⟨h2.1.symm, r, s, h2.2, (rand_real he hr).1, (rand_real he hs).1, (rand_real he hr).2, (rand_real he hs).2⟩

theorem move_sound {x : Operand} {p : POp} {rs : List Rand} {v : AV} (he : EInv ρ D n env a) (hc : one (.p .mov) [x] = some (.p p, rs)) (hv : pI p (rs.map env.ev) = some v) :
    a.eval x = real ρ v ∧ v.inD D := by
  obtain ⟨hq, r, rfl, e1, d1⟩ := one_one he hc
  simp only [IOp.p.injEq] at hq
  subst hq
  simp only [List.map_cons, List.map_nil, pI, Option.some.injEq] at hv
  subst hv
  exact ⟨e1, d1⟩

theorem pick_sound {c x y : Operand} {p : POp} {rs : List Rand} {v : AV} (he : EInv ρ D n env a) (hc : one (.p .pick) [c, x, y] = some (.p p, rs)) (hv : pI p (rs.map env.ev) = some v) :
    Val P ρ D w (do pure (.value (if ← asBool (a.eval c) then a.eval x else a.eval y))) v := by
  obtain ⟨rs', h1, h2⟩ := one_some hc
  simp only [Prod.mk.injEq, IOp.p.injEq] at h2
  obtain ⟨rfl, rfl⟩ := h2
  obtain ⟨r, s, t, rfl, h1, h2, h3⟩ := rands_three h1
  have e1 := rand_real he h1
  have e2 := rand_real he h2
  have e3 := rand_real he h3
  simp only [List.map_cons, List.map_nil] at hv
  rw [e1.1, e2.1, e3.1]
  cases hb : env.ev r with
  | bool b =>
    rw [hb] at hv
    simp only [pI, Option.some.injEq] at hv
    subst hv
    unfold Val
    cases b <;> simp [real, asBool, Result.andThen, e2.2, e3.2]
  | _ => rw [hb] at hv; simp [pI] at hv

theorem run_build {t : TypeId} {ps : List (Nat × Operand)} {places : List (Nat × Nat)} {rs : List Rand} {z : AV} {cs : List AV} {pl : Nat → Option (Nat × Nat)} (he : EInv ρ D n env a)
    (hz : zeroT P t = some z) (hps : partsOf ps pl = some (places, rs)) (hf : fill z.cells places (rs.map env.ev) = some cs) :
    Instr.fill pl (real ρ z).cells (ps.map fun p => (p.1, a.eval p.2)) = some (reals ρ cs).toArray ∧ allD D cs := by
  have hp := parts_inv he hps
  have hzd := (run_zeroValue (P := P) (w := default) hz ρ D).2
  rw [zip_map_pair a.eval, hp.2.1, real_cells]
  have := fill_real (ρ := ρ) (D := D) hp.1 hf hp.2.2 (cells_inD hzd)
  exact ⟨this.1, this.2.1⟩

theorem build_sound {t : TypeId} {ps : Array (Nat × Operand)} {p : POp} {rs : List Rand} {v : AV} (he : EInv ρ D n env a) (hc : compOp P (.build t ps) = some (.p p, rs)) (hv : pI p (rs.map env.ev) = some v) :
    Val P ρ D w (do pure (.value (← Instr.build t (ps.map fun (i, x) => (i, a.eval x))))) v := by
  simp only [compOp] at hc
  split at hc
  · rename_i z fs hz hu
    split at hc
    · simp at hc
    · rename_i hall
      simp only [Option.map_eq_some_iff] at hc
      obtain ⟨⟨places, rs'⟩, hps, hq⟩ := hc
      simp only [Prod.mk.injEq, IOp.p.injEq] at hq
      obtain ⟨rfl, rfl⟩ := hq
      simp only [pI, Option.map_eq_some_iff] at hv
      obtain ⟨cs, hf, rfl⟩ := hv
      have hb := run_build he hz hps hf
      refine val_of ?_ (by simp only [AV.inD]; exact hb.2)
      simp only [Instr.build, Sem.run_bind, (run_zeroValue hz ρ D).1, Result.andThen, run_underlying hu, Sem.run_pure]
      have hall' : ∀ f ∈ fs.toList, (sizeT P f.type).isSome = true := by
        simp only [Bool.not_eq_true', Bool.not_eq_false] at hall
        intro f hf
        have := Array.all_eq_true_iff_forall_mem.1 hall f (by simpa using hf)
        exact this
      have hm := run_mapM_array (P := P) (w := w) (fun f : Field => (do pure (f.offset, ← sizeOf f.type) : Sem (Nat × Nat))) (fun f : Field => (f.offset, (sizeT P f.type).getD 0)) fs (by
        intro f hf
        obtain ⟨k, hk⟩ := Option.isSome_iff_exists.1 (hall' f hf)
        rw [Sem.run_bind, run_sizeOf hk]
        simp [Result.andThen, hk])
      rw [hm]
      simp only [Result.andThen]
      have hpl : (fun i => (fs.map fun f : Field => (f.offset, (sizeT P f.type).getD 0))[i]?) = fieldPlaceOf P fs := by
        funext i
        unfold fieldPlaceOf
        rw [Array.getElem?_map]
        cases hfi : fs[i]? with
        | none => rfl
        | some f =>
          obtain ⟨k, hk⟩ := Option.isSome_iff_exists.1 (hall' f (by
            have := Array.mem_of_getElem? hfi
            simpa using this))
          simp [hk]
      rw [hpl]
      have e : (ps.map fun (p : Nat × Operand) => (p.1, a.eval p.2)).toList = ps.toList.map fun p => (p.1, a.eval p.2) := by simp
      rw [show (ps.map fun (i, x) => (i, a.eval x)).toList = ps.toList.map fun p => (p.1, a.eval p.2) from e, hb.1]
      simp [real]
  · rename_i z len e hz hu
    split at hc
    · rename_i k hk
      simp only [Option.map_eq_some_iff] at hc
      obtain ⟨⟨places, rs'⟩, hps, hq⟩ := hc
      simp only [Prod.mk.injEq, IOp.p.injEq] at hq
      obtain ⟨rfl, rfl⟩ := hq
      simp only [pI, Option.map_eq_some_iff] at hv
      obtain ⟨cs, hf, rfl⟩ := hv
      have hb := run_build he hz hps hf
      refine val_of ?_ (by simp only [AV.inD]; exact hb.2)
      simp only [Instr.build, Sem.run_bind, (run_zeroValue hz ρ D).1, Result.andThen, run_underlying hu, Sem.run_pure, run_sizeOf hk]
      have e : (ps.map fun (p : Nat × Operand) => (p.1, a.eval p.2)).toList = ps.toList.map fun p => (p.1, a.eval p.2) := by simp
      rw [show (ps.map fun (i, x) => (i, a.eval x)).toList = ps.toList.map fun p => (p.1, a.eval p.2) from e, hb.1]
      simp [real]
    · simp at hc
  · simp at hc

theorem nilcheck_sound {x : Operand} {p : POp} {rs : List Rand} {v : AV} (he : EInv ρ D n env a) (o : Oper) (ho : o.op = .nilCheck x) (hc : one (.p .nilchk) [x] = some (.p p, rs)) (hv : pI p (rs.map env.ev) = some v) :
    Val P ρ D w (execOp a.eval o) v := by
  obtain ⟨hq, r, rfl, e1, d1⟩ := one_one he hc
  simp only [IOp.p.injEq] at hq
  subst hq
  simp only [List.map_cons, List.map_nil] at hv
  unfold execOp
  rw [ho]
  simp only
  rw [e1]
  cases hr : env.ev r with
  | ptr b o =>
    rw [hr] at hv d1
    simp only [pI, Option.some.injEq] at hv
    subst hv
    exact ⟨by simp [real], d1⟩
  | _ => rw [hr] at hv; simp [pI] at hv

theorem conv_sound {s d : TypeId} {x : Operand} {p : POp} {rs : List Rand} {v : AV} (he : EInv ρ D n env a) (hc : compOp P (.convert s d x) = some (.p p, rs)) (hv : pI p (rs.map env.ev) = some v) :
    Val P ρ D w (do pure (.value (← convert s d (a.eval x)))) v := by
  simp only [compOp] at hc
  split at hc
  · rename_i sd k hs hd
    obtain ⟨hq, r, rfl, e1, d1⟩ := one_one he hc
    simp only [IOp.p.injEq] at hq
    subst hq
    simp only [List.map_cons, List.map_nil] at hv
    rw [e1]
    cases hr : env.ev r with
    | int k' m =>
      rw [hr] at hv
      simp only [pI, Option.some.injEq] at hv
      subst hv
      refine val_of ?_ (by simp [AV.inD])
      simp [convert, run_underlying hs, run_underlying hd, Conv.intToInt, real, Result.andThen]
    | _ => rw [hr] at hv; simp [pI] at hv
  · rename_i hs hd
    obtain ⟨hq, r, rfl, e1, d1⟩ := one_one he hc
    simp only [IOp.p.injEq] at hq
    subst hq
    simp only [List.map_cons, List.map_nil] at hv
    rw [e1]
    cases hr : env.ev r with
    | str m =>
      rw [hr] at hv
      simp only [pI, Option.some.injEq] at hv
      subst hv
      refine val_of ?_ (by simp [AV.inD])
      simp [convert, run_underlying hs, run_underlying hd, real, Result.andThen]
    | _ => rw [hr] at hv; simp [pI] at hv
  · split at hc
    · obtain ⟨rs', h1, h2⟩ := one_some hc; simp at h2
    · simp at hc
  · split at hc
    · obtain ⟨rs', h1, h2⟩ := one_some hc; simp at h2
    · simp at hc
  · simp at hc

theorem fieldAddr_sound {t : TypeId} {x : Operand} {i : Nat} {p : POp} {rs : List Rand} {v : AV} (he : EInv ρ D n env a) (hc : compOp P (.fieldAddr t x i) = some (.p p, rs)) (hv : pI p (rs.map env.ev) = some v) :
    Val P ρ D w (do pure (.value (← Instr.fieldAt t (a.eval x) i))) v := by
  simp only [compOp] at hc
  split at hc
  · rename_i fs hu
    split at hc
    · rename_i f hf
      split at hc
      · rename_i k hk
        obtain ⟨hq, r, rfl, e1, d1⟩ := one_one he hc
        simp only [IOp.p.injEq] at hq
        subst hq
        simp only [List.map_cons, List.map_nil] at hv
        rw [e1]
        cases hr : env.ev r with
        | ptr b o =>
          rw [hr] at hv d1
          simp only [pI, Option.some.injEq] at hv
          subst hv
          refine val_of ?_ (by simpa [AV.inD] using d1)
          simp [Instr.fieldAt, run_underlying hu, hf, Instr.sureAddr, fieldPlace, run_sizeOf hk, real, Result.andThen, add_real]
        | _ => rw [hr] at hv; simp [pI] at hv
      · simp at hc
    · simp at hc
  · simp at hc

theorem field_sound {t : TypeId} {x : Operand} {i : Nat} {p : POp} {rs : List Rand} {v : AV} (he : EInv ρ D n env a) (hc : compOp P (.field t x i) = some (.p p, rs)) (hv : pI p (rs.map env.ev) = some v) :
    Val P ρ D w (do pure (.value (← Instr.field t (a.eval x) i))) v := by
  simp only [compOp] at hc
  split at hc
  · rename_i fs hu
    split at hc
    · rename_i f hf
      split at hc
      · rename_i g k hg hk
        obtain ⟨hq, r, rfl, e1, d1⟩ := one_one he hc
        simp only [IOp.p.injEq] at hq
        subst hq
        simp only [List.map_cons, List.map_nil] at hv
        rw [e1]
        cases hr : env.ev r with
        | agg cs =>
          rw [hr] at hv d1
          simp only [pI] at hv
          simp only [AV.inD] at d1
          have hp := part_real (P := P) (ρ := ρ) (w := w) hg hk hv d1
          refine val_of ?_ hp.2
          simp [Instr.field, run_underlying hu, hf, asAgg, real, Result.andThen, hp.1]
        | _ => rw [hr] at hv; simp [pI] at hv
      · simp at hc
    · simp at hc
  · simp at hc

theorem indexAddr_sound {t : TypeId} {x y : Operand} {p : POp} {rs : List Rand} {v : AV} (he : EInv ρ D n env a) (hc : compOp P (.indexAddr t x y) = some (.p p, rs)) (hv : pI p (rs.map env.ev) = some v) :
    Val P ρ D w (do pure (.value (← Instr.indexAt t (a.eval x) (a.eval y)))) v := by
  simp only [compOp] at hc
  split at hc
  · rename_i e hu
    simp only [Option.bind_eq_some_iff] at hc
    obtain ⟨k, hk, hc⟩ := hc
    obtain ⟨hq, r, s, rfl, e1, e2, d1, d2⟩ := one_two he hc
    simp only [IOp.p.injEq] at hq
    subst hq
    simp only [List.map_cons, List.map_nil] at hv
    rw [e1, e2]
    cases hr : env.ev r with
    | sl b o len cap opn =>
      rw [hr] at hv d1
      simp only [pI] at hv
      cases hn : asNat (env.ev s) with
      | none => simp [hn] at hv
      | some i =>
        simp only [hn] at hv
        obtain ⟨ik, hs⟩ := asNat_int hn
        rw [hs]
        cases hb : Nat.ble (i + 1) len with
        | false => simp [hb] at hv
        | true =>
          simp only [hb, cond_true, Option.some.injEq] at hv
          subst hv
          have hle := Nat.le_of_ble_eq_true hb
          refine val_of ?_ (by simpa [AV.inD] using d1)
          simp only [real, Instr.indexAt, asIntOf, Sem.run_bind, Sem.run_pure, Result.andThen, run_underlying hu]
          rw [if_pos ⟨by omega, by omega⟩]
          simp [Sem.run_bind, run_sizeOf hk, Result.andThen, add_real]
    | _ => rw [hr] at hv; simp [pI] at hv
  · rename_i len e hu
    simp only [Option.bind_eq_some_iff] at hc
    obtain ⟨k, hk, hc⟩ := hc
    obtain ⟨hq, r, s, rfl, e1, e2, d1, d2⟩ := one_two he hc
    simp only [IOp.p.injEq] at hq
    subst hq
    simp only [List.map_cons, List.map_nil] at hv
    rw [e1, e2]
    cases hr : env.ev r with
    | ptr b o =>
      rw [hr] at hv d1
      simp only [pI] at hv
      cases hn : asNat (env.ev s) with
      | none => simp [hn] at hv
      | some i =>
        simp only [hn] at hv
        obtain ⟨ik, hs⟩ := asNat_int hn
        rw [hs]
        cases hb : Nat.ble (i + 1) len with
        | false => simp [hb] at hv
        | true =>
          simp only [hb, cond_true, Option.some.injEq] at hv
          subst hv
          have hle := Nat.le_of_ble_eq_true hb
          refine val_of ?_ (by simpa [AV.inD] using d1)
          simp only [real, Instr.indexAt, asIntOf, Sem.run_bind, Sem.run_pure, Result.andThen, run_underlying hu, Instr.sureAddr]
          have hlt : 0 ≤ (i : Int) ∧ (i : Int) < (len : Int) := ⟨by omega, by omega⟩
          by_cases h1 : len ≤ 1
          · simp [hlt, h1, run_underlying hu, Sem.run_bind, run_sizeOf hk, Result.andThen, add_real]
          · simp [hlt, h1, Sem.run_bind, run_sizeOf hk, Result.andThen, add_real]
    | _ => rw [hr] at hv; simp [pI] at hv
  · simp at hc

theorem index_sound {t : TypeId} {x y : Operand} {p : POp} {rs : List Rand} {v : AV} (he : EInv ρ D n env a) (hc : compOp P (.index t x y) = some (.p p, rs)) (hv : pI p (rs.map env.ev) = some v) :
    Val P ρ D w (do pure (.value (← Instr.index t (a.eval x) (a.eval y)))) v := by
  simp only [compOp] at hc
  split at hc
  · rename_i hu
    obtain ⟨hq, r, s, rfl, e1, e2, d1, d2⟩ := one_two he hc
    simp only [IOp.p.injEq] at hq
    subst hq
    simp only [List.map_cons, List.map_nil] at hv
    rw [e1, e2]
    cases hr : env.ev r with
    | str l =>
      rw [hr] at hv
      simp only [pI] at hv
      cases hn : asNat (env.ev s) with
      | none => simp [hn] at hv
      | some i =>
        simp only [hn, Option.map_eq_some_iff] at hv
        obtain ⟨b, hb, rfl⟩ := hv
        obtain ⟨ik, hs⟩ := asNat_int hn
        rw [hs]
        refine val_of ?_ (by simp [AV.inD])
        have hlt : i < l.length := (List.getElem?_eq_some_iff.1 hb).1
        have hget : (⟨l.toArray⟩ : ByteArray)[i]? = some b := by
          rw [getElem?_def]
          have : i < (⟨l.toArray⟩ : ByteArray).size := by simpa [ByteArray.size] using hlt
          rw [dif_pos this]
          have := (List.getElem?_eq_some_iff.1 hb).2
          simp [← this]; rfl
        simp only [real, Instr.index, asIntOf, Sem.run_bind, Sem.run_pure, Result.andThen, run_underlying hu]
        simp [hget]
    | _ => rw [hr] at hv; simp [pI] at hv
  · rename_i len e hu
    split at hc
    · rename_i g k hg hk
      obtain ⟨hq, r, s, rfl, e1, e2, d1, d2⟩ := one_two he hc
      simp only [IOp.p.injEq] at hq
      subst hq
      simp only [List.map_cons, List.map_nil] at hv
      rw [e1, e2]
      cases hr : env.ev r with
      | agg cs =>
        rw [hr] at hv d1
        simp only [pI] at hv
        simp only [AV.inD] at d1
        cases hn : asNat (env.ev s) with
        | none => simp [hn] at hv
        | some i =>
          simp only [hn] at hv
          obtain ⟨ik, hs⟩ := asNat_int hn
          rw [hs]
          cases hb : Nat.ble (i + 1) len with
          | false => simp [hb] at hv
          | true =>
            simp only [hb, cond_true] at hv
            have hle := Nat.le_of_ble_eq_true hb
            have hp := part_real (P := P) (ρ := ρ) (w := w) hg hk hv d1
            refine val_of ?_ hp.2
            simp only [real, Instr.index, asIntOf, Sem.run_bind, Sem.run_pure, Result.andThen, run_underlying hu]
            rw [if_pos ⟨by omega, by omega⟩]
            simp [Sem.run_bind, run_sizeOf hk, Result.andThen, hp.1]
      | _ => rw [hr] at hv; simp [pI] at hv
    · simp at hc
  · simp at hc

theorem extract_sound {x : Operand} {i : Nat} {p : POp} {rs : List Rand} {v : AV} (he : EInv ρ D n env a) (hc : one (.p (.ext i)) [x] = some (.p p, rs)) (hv : pI p (rs.map env.ev) = some v) :
    Val P ρ D w (do pure (.value (← Instr.extract (a.eval x) i))) v := by
  obtain ⟨hq, r, rfl, e1, d1⟩ := one_one he hc
  simp only [IOp.p.injEq] at hq
  subst hq
  simp only [List.map_cons, List.map_nil] at hv
  rw [e1]
  cases hr : env.ev r with
  | tup vs =>
    rw [hr] at hv d1
    simp only [pI] at hv
    simp only [AV.inD] at d1
    refine val_of ?_ ((allD_iff D vs).1 d1 v (List.mem_of_getElem? hv))
    have : (reals ρ vs).toArray[i]? = some (real ρ v) := by rw [List.getElem?_toArray, reals_get, hv]; rfl
    simp only [real, Instr.extract, this, Sem.run_pure]
  | _ => rw [hr] at hv; simp [pI] at hv
end
end Ads
end Go.Proofs.YtglmcmjionhikaaGreat

set_option linter.unusedSimpArgs false
set_option linter.unusedVariables false
namespace Go.Proofs.YtglmcmjionhikaaGreat
namespace Ads
section
variable {P : Program} {ρ : Rho} {D : Dom} {w : World} {n : Nat} {env : Env} {a : Act}

theorem bound_real {v : AV} {i y : Nat} {code : BoundsCode} (h : asNat v = some i) (hy : i ≤ y) : (Instr.sliceBound (real ρ v) y code).run P w = .ok i w := by
  obtain ⟨k, rfl⟩ := asNat_int h
  rw [real, run_sliceBound w k (i : Int) y code (by omega) (by omega)]
  simp

/-- The bounds of a slice expression. -/
theorem bounds_real {isSlice : Bool} {len cap extra l h m : Nat} {lo hi mx : Option AV} (hmx : mx.isSome = true → hi.isSome = true)
    (hb : bounds len cap lo.isSome hi.isSome mx.isSome (lo.toList ++ (hi.toList ++ mx.toList)) = some (l, h, m)) :
    (Instr.sliceBounds isSlice len (cap + extra) (lo.map (real ρ)) (hi.map (real ρ)) (mx.map (real ρ))).run P w = .ok (l, h, cond mx.isSome m (cap + extra)) w ∧
    l ≤ h ∧ h ≤ m ∧ m ≤ cap ∧ (mx.isSome = false → m = cap) := by
  unfold bounds at hb
  have fin : ∀ {l' h' m' : Nat}, (cond (Nat.ble l' h' && Nat.ble h' m' && Nat.ble m' cap) (some (l', h', m')) none : Option (Nat × Nat × Nat)) = some (l, h, m) →
      l' = l ∧ h' = h ∧ m' = m ∧ l ≤ h ∧ h ≤ m ∧ m ≤ cap := by
    intro l' h' m' e
    cases hc : (Nat.ble l' h' && Nat.ble h' m' && Nat.ble m' cap) with
    | false => simp [hc] at e
    | true =>
      simp only [hc, cond_true, Option.some.injEq, Prod.mk.injEq] at e
      simp only [Bool.and_eq_true] at hc
      have h1 := Nat.le_of_ble_eq_true hc.1.1
      have h2 := Nat.le_of_ble_eq_true hc.1.2
      have h3 := Nat.le_of_ble_eq_true hc.2
      obtain ⟨rfl, rfl, rfl⟩ := e
      exact ⟨rfl, rfl, rfl, h1, h2, h3⟩
  cases lo with
  | none =>
    cases hi with
    | none =>
      cases mx with
      | none =>
        simp at hb
        obtain ⟨rfl, rfl, rfl, h1, h2, h3⟩ := fin hb
        refine ⟨?_, h1, h2, h3, fun _ => rfl⟩
        simp [Instr.sliceBounds, Result.andThen]
      | some mv => simp at hmx
    | some hv =>
      cases mx with
      | none =>
        simp at hb
        cases hh : asNat hv with
        | none => simp [hh] at hb
        | some h' =>
          simp [hh] at hb
          obtain ⟨rfl, rfl, rfl, h1, h2, h3⟩ := fin hb
          refine ⟨?_, h1, h2, h3, fun _ => rfl⟩
          simp [Instr.sliceBounds, Result.andThen, bound_real (P := P) (w := w) (ρ := ρ) hh (show h' ≤ cap + extra by omega)]
      | some mv =>
        simp at hb
        cases hh : asNat hv with
        | none => simp [hh] at hb
        | some h' =>
          cases hm : asNat mv with
          | none => simp [hh, hm] at hb
          | some m' =>
            simp [hh, hm] at hb
            obtain ⟨rfl, rfl, rfl, h1, h2, h3⟩ := fin hb
            refine ⟨?_, h1, h2, h3, fun e => by simp at e⟩
            simp [Instr.sliceBounds, Result.andThen, bound_real (P := P) (w := w) (ρ := ρ) hm (show m' ≤ cap + extra by omega), bound_real (P := P) (w := w) (ρ := ρ) hh h2]
  | some lv =>
    cases hl : asNat lv with
    | none => simp [hl] at hb
    | some l' =>
      cases hi with
      | none =>
        cases mx with
        | none =>
          simp [hl] at hb
          obtain ⟨rfl, rfl, rfl, h1, h2, h3⟩ := fin hb
          refine ⟨?_, h1, h2, h3, fun _ => rfl⟩
          simp [Instr.sliceBounds, Result.andThen, bound_real (P := P) (w := w) (ρ := ρ) hl h1]
        | some mv => simp at hmx
      | some hv =>
        cases mx with
        | none =>
          cases hh : asNat hv with
          | none => simp [hl, hh] at hb
          | some h' =>
            simp [hl, hh] at hb
            obtain ⟨rfl, rfl, rfl, h1, h2, h3⟩ := fin hb
            refine ⟨?_, h1, h2, h3, fun _ => rfl⟩
            simp [Instr.sliceBounds, Result.andThen, bound_real (P := P) (w := w) (ρ := ρ) hl h1, bound_real (P := P) (w := w) (ρ := ρ) hh (show h' ≤ cap + extra by omega)]
        | some mv =>
          cases hh : asNat hv with
          | none => simp [hl, hh] at hb
          | some h' =>
            cases hm : asNat mv with
            | none => simp [hl, hh, hm] at hb
            | some m' =>
              simp [hl, hh, hm] at hb
              obtain ⟨rfl, rfl, rfl, h1, h2, h3⟩ := fin hb
              refine ⟨?_, h1, h2, h3, fun e => by simp at e⟩
              simp [Instr.sliceBounds, Result.andThen, bound_real (P := P) (w := w) (ρ := ρ) hl h1, bound_real (P := P) (w := w) (ρ := ρ) hm (show m' ≤ cap + extra by omega), bound_real (P := P) (w := w) (ρ := ρ) hh h2]

/-- The arguments of a slice expression, as values. -/
theorem optArgs_inv (he : EInv ρ D n env a) {x : Operand} {lo hi mx : Option Operand} {rs : List Rand} (h : optArgs [some x, lo, hi, mx] = some rs) :
    ∃ (v : AV) (l h m : Option AV), rs.map env.ev = v :: (l.toList ++ (h.toList ++ m.toList)) ∧ a.eval x = real ρ v ∧ v.inD D ∧
      lo.map a.eval = l.map (real ρ) ∧ hi.map a.eval = h.map (real ρ) ∧ mx.map a.eval = m.map (real ρ) ∧ l.isSome = lo.isSome ∧ h.isSome = hi.isSome ∧ m.isSome = mx.isSome := by
  unfold optArgs at h
  have opt : ∀ (o : Option Operand) (r : List Rand) (xs : List Operand), randsOf (o.toList ++ xs) = some r → ∃ (ov : Option AV) (r' : List Rand), randsOf xs = some r' ∧ r.map env.ev = ov.toList ++ r'.map env.ev ∧
      o.map a.eval = ov.map (real ρ) ∧ ov.isSome = o.isSome := by
    intro o r xs hr
    cases o with
    | none => exact ⟨none, r, hr, by simp, rfl, rfl⟩
    | some y =>
      obtain ⟨q, r', rfl, h1, h2⟩ := rands_cons hr
      exact ⟨some (env.ev q), r', h2, by simp, by simp [(rand_real he h1).1], rfl⟩
  have e : ([some x, lo, hi, mx] : List (Option Operand)).filterMap id = x :: (lo.toList ++ (hi.toList ++ (mx.toList ++ []))) := by
    cases lo <;> cases hi <;> cases mx <;> rfl
  rw [e] at h
  obtain ⟨q, r', rfl, h1, h2⟩ := rands_cons h
  obtain ⟨l, r1, h3, e3, el, sl⟩ := opt lo _ _ h2
  obtain ⟨hh, r2, h4, e4, eh, sh⟩ := opt hi _ _ h3
  obtain ⟨m, r3, h5, e5, em, sm⟩ := opt mx _ _ h4
  simp [randsOf] at h5
  subst h5
  refine ⟨env.ev q, l, hh, m, ?_, (rand_real he h1).1, (rand_real he h1).2, el, eh, em, sl, sh, sm⟩
  simp only [List.map_cons]
  rw [e3, e4, e5]; simp

theorem slice_sound {t : TypeId} {x : Operand} {lo hi mx : Option Operand} {p : POp} {rs : List Rand} {v : AV} (he : EInv ρ D n env a) (hc : compOp P (.slice t x lo hi mx) = some (.p p, rs)) (hv : pI p (rs.map env.ev) = some v) :
    Val P ρ D w (do pure (.value (← Instr.sliceAt t (a.eval x) (lo.map a.eval) (hi.map a.eval) (mx.map a.eval)))) v := by
  simp only [compOp] at hc
  split at hc
  · simp at hc
  rename_i hmh
  have hmx : mx.isSome = true → hi.isSome = true := by
    intro h1; cases hi <;> simp_all
  split at hc
  · rename_i e hu
    split at hc
    · rename_i size hs
      simp only [Option.map_eq_some_iff] at hc
      obtain ⟨as, has, hq⟩ := hc
      simp only [Prod.mk.injEq, IOp.p.injEq] at hq
      obtain ⟨rfl, rfl⟩ := hq
      obtain ⟨xv, l, h, m, eargs, ex, dx, el, eh, em, sl, sh, sm⟩ := optArgs_inv he has
      rw [eargs, ← sl, ← sh, ← sm] at hv
      rw [← sh, ← sm] at hmx
      rw [ex, el, eh, em]
      have hsat : Instr.sliceAt t (real ρ xv) (l.map (real ρ)) (h.map (real ρ)) (m.map (real ρ)) = (do
          match ← underlying t with
          | .array n elem =>
            let a ← Instr.sureAddr (real ρ xv)
            let (l, h, m) ← Instr.sliceBounds false n n (l.map (real ρ)) (h.map (real ρ)) (m.map (real ρ))
            let size ← sizeOf elem
            pure (.slice (some (if m = l then a else a.add (l * size))) (h - l) (m - l))
          | _ => Instr.slice t (real ρ xv) (l.map (real ρ)) (h.map (real ρ)) (m.map (real ρ))) := rfl
      cases xv with
      | sl b o len cap opn =>
        simp only [pI] at hv
        split at hv
        · rename_i l' h' mm hb
          have hr := bounds_real (P := P) (w := w) (ρ := ρ) (isSlice := true) (extra := cond opn (ρ b).extra 0) hmx hb
          obtain ⟨hrun, h1, h2, h3, h4⟩ := hr
          cases hg : (Nat.beq mm l' && Nat.beq cap mm && (opn && !m.isSome && !Nat.beq l' 0)) with
          | true =>
            cases hms : m.isSome with
            | true => rw [hms] at hg; simp at hg
            | false =>
              simp only [hg, cond_true, Option.some.injEq] at hv
              subst hv
              simp only [Bool.and_eq_true] at hg
              obtain ⟨⟨g1, g2⟩, ⟨rfl, -⟩, -⟩ := hg
              have g1 := Nat.eq_of_beq_eq_true g1
              have g2 := Nat.eq_of_beq_eq_true g2
              have gl : l' = cap := by omega
              have gh : h' = cap := by omega
              have gm : mm = cap := by omega
              refine val_of ?_ (by simpa [AV.inD] using dx)
              rw [hsat, Sem.run_bind, run_underlying hu]
              simp only [Result.andThen, real, Instr.slice, Sem.run_bind, run_underlying hu]
              simp only [cond_true, hms, cond_false] at hrun
              simp only [cond_true]
              rw [hrun]
              simp only [Result.andThen, run_sizeOf hs, Sem.run_pure]
              simp only [gl, gh, hms, cond_false]
              congr 1
              cases hex : (ρ b).extra with
              | zero => simp
              | succ x =>
                have hnb : Nat.beq (x + 1) 0 = false := rfl
                rw [if_neg (by omega)]
                simp only [hnb, cond_false, Option.map_some, add_real, Nat.sub_self]
                congr 1
                omega
          | false =>
            simp only [hg, cond_false, Option.some.injEq] at hv
            subst hv
            refine val_of ?_ (by simpa [AV.inD] using dx)
            rw [hsat, Sem.run_bind, run_underlying hu]
            simp only [Result.andThen, real, Instr.slice, Sem.run_bind, run_underlying hu]
            rw [show (cond opn (cap + (ρ b).extra) cap) = cap + cond opn (ρ b).extra 0 by cases opn <;> simp]
            rw [hrun]
            simp only [Result.andThen, run_sizeOf hs, Sem.run_pure]
            congr 1
            cases hm : m.isSome with
            | true =>
              simp only [cond_true, cond_false]
              by_cases he1 : mm = l'
              · have : Nat.beq mm l' = true := by rw [he1]; exact Nat.beq_refl _
                simp [he1]
              · have : Nat.beq mm l' = false := by
                  cases hbb : Nat.beq mm l' with
                  | false => rfl
                  | true => exact absurd (Nat.eq_of_beq_eq_true hbb) he1
                simp [he1, this, add_real]
            | false =>
              have hmc := h4 hm
              subst hmc
              simp only [cond_false]
              cases opn with
              | false =>
                simp only [cond_false, Nat.add_zero]
                by_cases he1 : mm = l'
                · simp [he1]
                · have : Nat.beq mm l' = false := by
                    cases hbb : Nat.beq mm l' with
                    | false => rfl
                    | true => exact absurd (Nat.eq_of_beq_eq_true hbb) he1
                  simp [he1, this, add_real]
              | true =>
                by_cases hl0 : l' = 0
                · subst hl0
                  have hcn : cond (Nat.beq mm 0) 0 0 = 0 := by cases Nat.beq mm 0 <;> rfl
                  simp only [cond_true, Nat.zero_mul, hcn, Nat.add_zero, Nat.sub_zero, Option.map_some]
                  split
                  · rfl
                  · rfl
                · have hlb : Nat.beq l' 0 = false := by
                    cases hq : Nat.beq l' 0 with
                    | false => rfl
                    | true => exact absurd (Nat.eq_of_beq_eq_true hq) hl0
                  simp only [Nat.beq_refl, Bool.and_true, hlb, hm, Bool.not_false, Bool.and_self] at hg
                  have hne : mm ≠ l' := by
                    intro e
                    rw [e, Nat.beq_refl] at hg
                    simp at hg
                  simp only [cond_true]
                  rw [if_neg (by omega)]
                  simp only [hg, cond_false, Option.map_some, add_real]
                  congr 1
                  omega
        · simp at hv
      | nils =>
        simp only [pI] at hv
        split at hv
        · rename_i q hb
          obtain ⟨l', h', mm⟩ := q
          simp only [Option.some.injEq] at hv
          subst hv
          have hr := bounds_real (P := P) (w := w) (ρ := ρ) (isSlice := true) (extra := 0) hmx hb
          obtain ⟨hrun, h1, h2, h3, h4⟩ := hr
          refine val_of ?_ (by simp [AV.inD])
          rw [hsat, Sem.run_bind, run_underlying hu]
          simp only [Result.andThen, real, Instr.slice, Sem.run_bind, run_underlying hu]
          simp only [Nat.add_zero] at hrun
          rw [hrun]
          simp only [Result.andThen, run_sizeOf hs, Sem.run_pure]
          have hm0 : mm = 0 := by omega
          have hh0 : h' = 0 := by omega
          have hl0 : l' = 0 := by omega
          subst hm0 hh0 hl0
          cases m.isSome <;> simp
        · simp at hv
      | wild wa =>
        simp only [pI] at hv
        split at hv
        · rename_i q hb
          obtain ⟨l', h', mm⟩ := q
          simp only [Option.some.injEq] at hv
          subst hv
          have hr := bounds_real (P := P) (w := w) (ρ := ρ) (isSlice := true) (extra := 0) hmx hb
          obtain ⟨hrun, h1, h2, h3, h4⟩ := hr
          refine val_of ?_ (by simp [AV.inD])
          rw [hsat, Sem.run_bind, run_underlying hu]
          simp only [Result.andThen, real, Instr.slice, Sem.run_bind, run_underlying hu]
          simp only [Nat.add_zero] at hrun
          rw [hrun]
          simp only [Result.andThen, run_sizeOf hs, Sem.run_pure]
          have hm0 : mm = 0 := by omega
          have hh0 : h' = 0 := by omega
          have hl0 : l' = 0 := by omega
          subst hm0 hh0 hl0
          cases m.isSome <;> simp
        · simp at hv
      | _ => simp [pI] at hv
    · simp at hc
  · rename_i hu
    split at hc
    · simp at hc
    rename_i hmn
    have hmn' : mx = none := by cases mx <;> simp_all
    subst hmn'
    simp only [Option.map_eq_some_iff] at hc
    obtain ⟨as, has, hq⟩ := hc
    simp only [Prod.mk.injEq, IOp.p.injEq] at hq
    obtain ⟨rfl, rfl⟩ := hq
    have has' : optArgs [some x, lo, hi, none] = some as := has
    obtain ⟨xv, l, h, m, eargs, ex, dx, el, eh, em, sl, sh, sm⟩ := optArgs_inv he has'
    have hm : m = none := by cases m <;> simp_all
    subst hm
    rw [eargs, ← sl, ← sh] at hv
    rw [ex, el, eh]
    cases xv with
    | str s =>
      simp only [pI] at hv
      split at hv
      · rename_i l' h' mm hb
        simp only [Option.some.injEq] at hv
        subst hv
        have hr := bounds_real (P := P) (w := w) (ρ := ρ) (isSlice := false) (extra := 0) (lo := l) (hi := h) (mx := none) (by simp) hb
        obtain ⟨hrun, h1, h2, h3, h4⟩ := hr
        refine val_of ?_ (by simp [AV.inD])
        simp only [Instr.sliceAt, Sem.run_bind, run_underlying hu, Result.andThen, real, Instr.slice, Option.map_none, Option.isSome_none, Bool.false_eq_true, if_false, Sem.run_pure]
        simp only [Nat.add_zero, Option.map_none] at hrun
        rw [show (⟨s.toArray⟩ : ByteArray).size = s.length by simp [ByteArray.size], hrun]
        simp only [Result.andThen]
        congr 2
        apply ByteArray.ext
        rw [ByteArray.data_extract]
        apply Array.ext'
        simp [List.extract_eq_take_drop]
        rw [List.drop_take]
      · simp at hv
    | _ => simp [pI] at hv
  · rename_i len e hu
    split at hc
    · rename_i size hs
      simp only [Option.map_eq_some_iff] at hc
      obtain ⟨as, has, hq⟩ := hc
      simp only [Prod.mk.injEq, IOp.p.injEq] at hq
      obtain ⟨rfl, rfl⟩ := hq
      obtain ⟨xv, l, h, m, eargs, ex, dx, el, eh, em, sl, sh, sm⟩ := optArgs_inv he has
      rw [eargs, ← sl, ← sh, ← sm] at hv
      rw [← sh, ← sm] at hmx
      rw [ex, el, eh, em]
      cases xv with
      | ptr b o =>
        simp only [pI] at hv
        split at hv
        · rename_i l' h' mm hb
          simp only [Option.some.injEq] at hv
          subst hv
          have hr := bounds_real (P := P) (w := w) (ρ := ρ) (isSlice := false) (extra := 0) hmx hb
          obtain ⟨hrun, h1, h2, h3, h4⟩ := hr
          refine val_of ?_ (by simpa [AV.inD] using dx)
          simp only [Nat.add_zero] at hrun
          simp only [Instr.sliceAt, Sem.run_bind, run_underlying hu, Result.andThen, real, Instr.sureAddr, Sem.run_pure]
          rw [hrun]
          simp only [Result.andThen, run_sizeOf hs, Sem.run_pure]
          have hmm : cond m.isSome mm len = mm := by
            cases hm : m.isSome with
            | true => rfl
            | false => exact (h4 hm).symm
          rw [hmm]
          congr 2
          by_cases he1 : mm = l'
          · simp [he1]
          · have : Nat.beq mm l' = false := by
              cases hbb : Nat.beq mm l' with
              | false => rfl
              | true => exact absurd (Nat.eq_of_beq_eq_true hbb) he1
            simp [he1, this, add_real]
        · simp at hv
      | _ => simp [pI] at hv
    · simp at hc
  · simp at hc
end
end Ads
end Go.Proofs.YtglmcmjionhikaaGreat

set_option linter.unusedSimpArgs false
set_option linter.unusedVariables false
namespace Go.Proofs.YtglmcmjionhikaaGreat
namespace Ads
section
variable {P : Program} {ρ : Rho} {D : Dom} {w : World} {n : Nat} {env : Env} {a : Act}

theorem unop_sound {u : UnOp} {t : TypeId} {x : Operand} {p : POp} {rs : List Rand} {v : AV} (he : EInv ρ D n env a) (hc : compOp P (.unOp u t x) = some (.p p, rs)) (hv : pI p (rs.map env.ev) = some v) :
    Val P ρ D w (do pure (.value (← Op.unary u (a.eval x)))) v := by
  cases u <;> simp only [compOp] at hc
  case not =>
    obtain ⟨hq, r, rfl, e1, d1⟩ := one_one he hc
    simp only [IOp.p.injEq] at hq
    subst hq
    simp only [List.map_cons, List.map_nil] at hv
    rw [e1]
    cases hr : env.ev r with
    | bool b =>
      rw [hr] at hv
      simp only [pI, Option.some.injEq] at hv
      subst hv
      exact val_of (by simp [Op.unary, real]) (by simp [AV.inD])
    | _ => rw [hr] at hv; simp [pI] at hv
  case neg =>
    obtain ⟨hq, r, rfl, e1, d1⟩ := one_one he hc
    simp only [IOp.p.injEq] at hq
    subst hq
    simp only [List.map_cons, List.map_nil] at hv
    rw [e1]
    cases hr : env.ev r with
    | int k m =>
      rw [hr] at hv
      simp only [pI, Option.some.injEq] at hv
      subst hv
      exact val_of (by simp [Op.unary, Op.intArith, real]) (by simp [AV.inD])
    | _ => rw [hr] at hv; simp [pI] at hv
  all_goals simp at hc

theorem mkiface_sound {t : TypeId} {x : Operand} {p : POp} {rs : List Rand} {v : AV} (he : EInv ρ D n env a) (hc : compOp P (.makeInterface t x) = some (.p p, rs)) (hv : pI p (rs.map env.ev) = some v) :
    Val P ρ D w (do pure (.value (← Instr.makeInterface t (a.eval x)))) v := by
  simp only [compOp] at hc
  split at hc
  · simp at hc
  · rename_i d hni hu
    obtain ⟨hq, r, rfl, e1, d1⟩ := one_one he hc
    simp only [IOp.p.injEq] at hq
    subst hq
    simp only [List.map_cons, List.map_nil, pI, Option.some.injEq] at hv
    subst hv
    rw [e1]
    refine val_of ?_ (by simpa [AV.inD] using d1)
    unfold Instr.makeInterface
    rw [Sem.run_bind, run_underlying hu]
    simp only [Result.andThen]
    simp [real]
  · simp at hc

theorem mkfunc_sound {fn : Fn} {first capt : Array Operand} {p : POp} {rs : List Rand} {v : AV} (he : EInv ρ D n env a) (hc : compOp P (.makeFunc fn first capt) = some (.p p, rs)) (hv : pI p (rs.map env.ev) = some v) :
    Val P ρ D w (do pure (.value (← Instr.makeFunc fn (first.map a.eval) (capt.map a.eval)))) v := by
  simp only [compOp] at hc
  split at hc
  · simp at hc
  · rename_i hny
    obtain ⟨rs', h1, h2⟩ := one_some hc
    simp only [Prod.mk.injEq, IOp.p.injEq] at h2
    obtain ⟨rfl, rfl⟩ := h2
    simp only [pI, Option.some.injEq] at hv
    subst hv
    have hr := rands_real he h1
    have hlen : (rs.map env.ev).length = first.toList.length + capt.toList.length := by
      have := congrArg List.length hr.1
      simp [reals_length] at this ⊢
      omega
    have hd := (allD_iff D _).1 hr.2
    refine val_of ?_ ?_
    · simp only [Instr.makeFunc, Sem.run_pure, real, reals_take, reals_drop, ← hr.1]
      congr 2
      · apply Array.ext'; simp
      · apply Array.ext'; simp
    · simp only [AV.inD, allD_iff]
      exact ⟨hny, fun x hx => hd x (List.mem_of_mem_take hx), fun x hx => hd x (List.mem_of_mem_drop hx)⟩

theorem tassert_sound {t xt : TypeId} {x : Operand} {ok : Bool} {p : POp} {rs : List Rand} {v : AV} (he : EInv ρ D n env a) (hc : compOp P (.typeAssert x xt t ok) = some (.p p, rs)) (hv : pI p (rs.map env.ev) = some v) :
    Val P ρ D w (do pure (.value (← Instr.typeAssert (a.eval x) xt t ok))) v := by
  simp only [compOp] at hc
  split at hc
  · simp at hc
  · rename_i d dx hni hu hux
    simp only [Option.bind_eq_some_iff] at hc
    obtain ⟨z, hz, hc⟩ := hc
    obtain ⟨hq, r, rfl, e1, d1⟩ := one_one he hc
    simp only [IOp.p.injEq] at hq
    subst hq
    simp only [List.map_cons, List.map_nil] at hv
    rw [e1]
    have hzv := run_zeroValue (P := P) (w := w) hz ρ D
    have key : ∀ (xv : Value), (Instr.typeAssert xv xt t ok).run P w = (match xv with
        | .nilIface => (if ok then (do pure (.tuple #[← zeroValue t, .bool false]) : Sem Value) else runtimePanic (.typeAssertion (some xt) none t "")).run P w
        | .iface u y => if u = t then (pure (if ok then .tuple #[y, .bool true] else y) : Sem Value).run P w else (if ok then (do pure (.tuple #[← zeroValue t, .bool false]) : Sem Value) else runtimePanic (.typeAssertion (some xt) (some u) t "")).run P w
        | _ => (Instr.typeAssert xv xt t ok).run P w) := by
      intro xv
      cases xv with
      | nilIface =>
        unfold Instr.typeAssert
        rw [Sem.run_bind, run_underlying hu]
        try simp only [Result.andThen]
        all_goals (cases d <;> first | (exfalso; exact hni _ rfl) | rfl | (split <;> rfl))
      | iface u y =>
        unfold Instr.typeAssert
        rw [Sem.run_bind, run_underlying hu]
        try simp only [Result.andThen]
        all_goals (cases d <;> first | (exfalso; exact hni _ rfl) | rfl | (split <;> rfl))
      | _ => rfl
    cases hr : env.ev r with
    | iface u y =>
      rw [hr] at hv d1
      simp only [pI] at hv
      simp only [AV.inD] at d1
      cases hb : Nat.beq u t with
      | true =>
        have hut := Nat.eq_of_beq_eq_true hb
        simp only [hb, cond_true] at hv
        cases ok with
        | true =>
          simp only [cond_true, Option.some.injEq] at hv
          subst hv
          refine val_of ?_ (by simp [AV.inD, allD, d1])
          simp [key, real, reals, hut]
        | false =>
          simp only [cond_false, Option.some.injEq] at hv
          subst hv
          refine val_of ?_ d1
          simp [key, real, hut]
      | false =>
        have hut : u ≠ t := fun e => by rw [e, Nat.beq_refl] at hb; simp at hb
        simp only [hb, cond_false] at hv
        cases ok with
        | true =>
          simp only [cond_true, Option.some.injEq] at hv
          subst hv
          refine val_of ?_ (by simp [AV.inD, allD, hzv.2])
          simp [key, real, reals, hut, hzv.1, Result.andThen]
        | false => simp at hv
    | nili =>
      rw [hr] at hv
      simp only [pI] at hv
      cases ok with
      | true =>
        simp only [cond_true, Option.some.injEq] at hv
        subst hv
        refine val_of ?_ (by simp [AV.inD, allD, hzv.2])
        simp [key, real, reals, hzv.1, Result.andThen]
      | false => simp at hv
    | _ => rw [hr] at hv; simp [pI] at hv
  · simp at hc

theorem fold2_max : ∀ (r : List AV) (x v : AV), fold2 max2 x r = some v → ((reals ρ r).foldlM Builtin.max2 (real ρ x)).run P w = .ok (real ρ v) w ∧ (x.inD D → v.inD D)
  | [], x, v, h => by simp [fold2] at h; subst h; simp [reals]
  | y :: r, x, v, h => by
    simp only [fold2] at h
    cases hz : max2 x y with
    | none => simp [hz] at h
    | some z =>
      simp only [hz] at h
      have ih := fold2_max r z v h
      simp only [reals, List.foldlM_cons, Sem.run_bind]
      cases x <;> cases y <;> simp [max2] at hz
      subst hz
      refine ⟨?_, fun _ => ih.2 (by simp [AV.inD])⟩
      rw [← ih.1]
      simp only [real, Builtin.max2, Sem.run_pure, Result.andThen]
      congr 2
      rename_i k p k' q
      by_cases hpq : q > p <;> simp [hpq]

theorem fold2_min : ∀ (r : List AV) (x v : AV), fold2 min2 x r = some v → ((reals ρ r).foldlM Builtin.min2 (real ρ x)).run P w = .ok (real ρ v) w ∧ (x.inD D → v.inD D)
  | [], x, v, h => by simp [fold2] at h; subst h; simp [reals]
  | y :: r, x, v, h => by
    simp only [fold2] at h
    cases hz : min2 x y with
    | none => simp [hz] at h
    | some z =>
      simp only [hz] at h
      have ih := fold2_min r z v h
      simp only [reals, List.foldlM_cons, Sem.run_bind]
      cases x <;> cases y <;> simp [min2] at hz
      subst hz
      refine ⟨?_, fun _ => ih.2 (by simp [AV.inD])⟩
      rw [← ih.1]
      simp only [real, Builtin.min2, Sem.run_pure, Result.andThen]
      congr 2
      rename_i k p k' q
      by_cases hpq : q < p <;> simp [hpq]

theorem exec_builtin (o : Oper) (c : Call) (b : Builtin) (ho : o.op = .call c) (hb : c.callee = .builtin b) :
    execOp a.eval o = builtin b c.argTypes o.type (c.args.map fun | .const _ => true | _ => false) (c.args.map a.eval) := by
  unfold execOp
  rw [ho]
  simp only [resolve, hb]
  rfl

theorem args_map {c : Call} {xs : List Operand} {ys : List Value} (h : c.args.toList = xs) (e : xs.map a.eval = ys) : c.args.map a.eval = ys.toArray := by
  apply Array.ext'
  rw [Array.toList_map, h, e]

theorem types_of {c : Call} {ts : List TypeId} (h : c.argTypes.toList = ts) : c.argTypes = ts.toArray := by
  apply Array.ext'; rw [h]

theorem builtin_sound {o : Oper} {c : Call} {p : POp} {rs : List Rand} {v : AV} (he : EInv ρ D n env a) (ho : o.op = .call c) (hc : compOp P (.call c) = some (.p p, rs)) (hv : pI p (rs.map env.ev) = some v) :
    Val P ρ D w (execOp a.eval o) v := by
  simp only [compOp] at hc
  split at hc
  · rename_i f _
    simp only [Option.map_eq_some_iff] at hc
    obtain ⟨_, _, h2⟩ := hc
    simp at h2
  · simp only [Option.map_eq_some_iff] at hc
    obtain ⟨_, _, h2⟩ := hc
    simp at h2
  · rename_i b hcb
    rw [exec_builtin o c b ho hcb]
    split at hc
    · rename_i x t hargs htypes
      rw [types_of htypes]
      split at hc
      · rename_i e hu
        obtain ⟨hq, r, rfl, e1, d1⟩ := one_one he hc
        simp only [IOp.p.injEq] at hq
        subst hq
        rw [args_map hargs (ys := [real ρ (env.ev r)]) (by simp [e1])]
        simp only [List.map_cons, List.map_nil] at hv
        cases hr : env.ev r with
        | sl b o len cap opn =>
          rw [hr] at hv
          simp only [pI, Option.some.injEq] at hv
          subst hv
          refine val_of ?_ (by simp [AV.inD])
          simp [Builtin.len_, run_underlying hu, Result.andThen, real, goInt]
        | nils =>
          rw [hr] at hv
          simp only [pI, Option.some.injEq] at hv
          subst hv
          refine val_of ?_ (by simp [AV.inD])
          simp [Builtin.len_, run_underlying hu, Result.andThen, real, goInt]
        | wild a =>
          rw [hr] at hv
          simp only [pI, Option.some.injEq] at hv
          subst hv
          refine val_of ?_ (by simp [AV.inD])
          simp [Builtin.len_, run_underlying hu, Result.andThen, real, goInt]
        | rest b o k =>
          rw [hr] at hv
          simp only [pI, Option.some.injEq] at hv
          subst hv
          refine val_of ?_ (by simp [AV.inD])
          simp [Builtin.len_, run_underlying hu, Result.andThen, real, goInt]
        | _ => rw [hr] at hv; simp [pI] at hv
      · rename_i hu
        obtain ⟨hq, r, rfl, e1, d1⟩ := one_one he hc
        simp only [IOp.p.injEq] at hq
        subst hq
        rw [args_map hargs (ys := [real ρ (env.ev r)]) (by simp [e1])]
        simp only [List.map_cons, List.map_nil] at hv
        cases hr : env.ev r with
        | str s =>
          rw [hr] at hv
          simp only [pI, Option.some.injEq] at hv
          subst hv
          refine val_of ?_ (by simp [AV.inD])
          have hsz : (⟨s.toArray⟩ : ByteArray).size = s.length := by simp only [ByteArray.size, List.size_toArray]
          simp [Builtin.len_, run_underlying hu, Result.andThen, real, goInt, hsz, -ByteArray.size_data]
        | _ => rw [hr] at hv; simp [pI] at hv
      · rename_i k e hu
        obtain ⟨hq, r, rfl, e1, d1⟩ := one_one he hc
        simp only [IOp.p.injEq] at hq
        subst hq
        rw [args_map hargs (ys := [real ρ (env.ev r)]) (by simp [e1])]
        simp only [List.map_cons, List.map_nil, pI, Option.some.injEq] at hv
        subst hv
        refine val_of ?_ (by simp [AV.inD])
        simp [Builtin.len_, run_underlying hu, Result.andThen, real, goInt]
      · obtain ⟨hq, _⟩ := one_one he hc; simp at hq
      · rename_i arr hu
        split at hc
        · rename_i k e hu2
          obtain ⟨hq, r, rfl, e1, d1⟩ := one_one he hc
          simp only [IOp.p.injEq] at hq
          subst hq
          rw [args_map hargs (ys := [real ρ (env.ev r)]) (by simp [e1])]
          simp only [List.map_cons, List.map_nil, pI, Option.some.injEq] at hv
          subst hv
          refine val_of ?_ (by simp [AV.inD])
          simp [Builtin.len_, run_underlying hu, run_underlying hu2, Result.andThen, real, goInt]
        · simp at hc
      · simp at hc
    · rename_i x xs ts hargs
      obtain ⟨rs', h1, h2⟩ := one_some hc
      simp only [Prod.mk.injEq, IOp.p.injEq] at h2
      obtain ⟨rfl, rfl⟩ := h2
      obtain ⟨r, rs2, rfl, hr1, hr2⟩ := rands_cons h1
      have e1 := rand_real he hr1
      have e2 := rands_real he hr2
      rw [args_map hargs (ys := real ρ (env.ev r) :: reals ρ (rs2.map env.ev)) (by simp [e1.1, ← e2.1])]
      simp only [List.map_cons, pI] at hv
      have := fold2_max (P := P) (w := w) (D := D) (ρ := ρ) _ _ _ hv
      refine val_of ?_ (this.2 e1.2)
      simpa [Builtin.max_] using this.1
    · rename_i x xs ts hargs
      obtain ⟨rs', h1, h2⟩ := one_some hc
      simp only [Prod.mk.injEq, IOp.p.injEq] at h2
      obtain ⟨rfl, rfl⟩ := h2
      obtain ⟨r, rs2, rfl, hr1, hr2⟩ := rands_cons h1
      have e1 := rand_real he hr1
      have e2 := rands_real he hr2
      rw [args_map hargs (ys := real ρ (env.ev r) :: reals ρ (rs2.map env.ev)) (by simp [e1.1, ← e2.1])]
      simp only [List.map_cons, pI] at hv
      have := fold2_min (P := P) (w := w) (D := D) (ρ := ρ) _ _ _ hv
      refine val_of ?_ (this.2 e1.2)
      simpa [Builtin.min_] using this.1
    · split at hc
      · split at hc
        · simp at hc
        · split at hc
          · split at hc
            · simp at hc
            · obtain ⟨hq, _⟩ := one_two he hc; simp at hq
          · simp at hc
      · simp at hc
    · split at hc
      · simp only [Option.bind_eq_some_iff] at hc
        obtain ⟨k, hk, hc⟩ := hc
        obtain ⟨hq, _⟩ := one_two he hc; simp at hq
      · simp at hc
    · split at hc
      · simp only [Option.bind_eq_some_iff] at hc
        obtain ⟨k, hk, hc⟩ := hc
        obtain ⟨hq, _⟩ := one_one he hc; simp at hq
      · obtain ⟨hq, _⟩ := one_one he hc; simp at hq
      · simp at hc
    · simp at hc

theorem pI_sound {o : Oper} {p : POp} {rs : List Rand} {v : AV} (he : EInv ρ D n env a) (hc : compOp P o.op = some (.p p, rs)) (hv : pI p (rs.map env.ev) = some v) :
    Val P ρ D w (execOp a.eval o) v := by
  have hcc := hc
  cases ho : o.op <;> rw [ho] at hc
  case move x =>
    have := move_sound he hc hv
    unfold execOp; rw [ho]
    exact ⟨by simp only [Sem.run_pure]; rw [this.1], this.2⟩
  case assign x =>
    have := move_sound he hc hv
    unfold execOp; rw [ho]
    exact ⟨by simp only [Sem.run_pure]; rw [this.1], this.2⟩
  case pick c x y =>
    unfold execOp; rw [ho]
    exact pick_sound he hc hv
  case build t ps =>
    unfold execOp; rw [ho]
    exact build_sound he hc hv
  case nilCheck x => exact nilcheck_sound he o ho hc hv
  case binOp op t x y yt => exact binop_sound he ho hcc hv
  case unOp u t x =>
    unfold execOp; rw [ho]
    exact unop_sound he hc hv
  case convert s d x =>
    unfold execOp; rw [ho]
    exact conv_sound he hc hv
  case makeInterface t x =>
    unfold execOp; rw [ho]
    exact mkiface_sound he hc hv
  case makeFunc fn f c =>
    unfold execOp; rw [ho]
    exact mkfunc_sound he hc hv
  case slice t x lo hi mx =>
    unfold execOp; rw [ho]
    exact slice_sound he hc hv
  case fieldAddr t x i =>
    unfold execOp; rw [ho]
    exact fieldAddr_sound he hc hv
  case field t x i =>
    unfold execOp; rw [ho]
    exact field_sound he hc hv
  case indexAddr t x y =>
    unfold execOp; rw [ho]
    exact indexAddr_sound he hc hv
  case index t x y =>
    unfold execOp; rw [ho]
    exact index_sound he hc hv
  case typeAssert x xt t ok =>
    unfold execOp; rw [ho]
    exact tassert_sound he hc hv
  case extract x i =>
    unfold execOp; rw [ho]
    exact extract_sound he hc hv
  case call c => exact builtin_sound he ho hc hv
  case makeMap t r =>
    exfalso
    cases r with
    | none =>
      simp only [compOp] at hc
      obtain ⟨_, _, h2⟩ := one_some hc
      simp at h2
    | some r => simp [compOp] at hc
  all_goals (exfalso; simp only [compOp] at hc)
  all_goals repeat' (first
    | (simp only [Option.bind_eq_some_iff] at hc; obtain ⟨_, _, hc⟩ := hc)
    | (simp only [Option.map_eq_some_iff] at hc; obtain ⟨_, _, hc⟩ := hc; simp at hc; done)
    | (obtain ⟨_, _, h2⟩ := one_some hc; simp at h2; done)
    | (simp at hc; done)
    | (split at hc))
end
end Ads
end Go.Proofs.YtglmcmjionhikaaGreat

