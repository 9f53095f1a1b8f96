/-
  Operations that look at no memory: what the model runs is what 'pI' says.
-/
import Derived.Test.YtflmbknimebmnaaAdsStep
namespace Go.Proofs.Ytflmbknimebmnaa
namespace Ads
section
variable {P : Program} {H0 : Nat} {ρ : Rho} {D : Dom} {h : Heap} {w : World}

/-- A frame's slots. -/
structure EInv (ρ : Rho) (D : Dom) (n : Nat) (env : Env) (a : Act) : Prop where
  size : a.tmps.size = n
  get : ∀ i, a.tmps.getD i Go.undef = real ρ (env.get i)
  dom : ∀ i, (env.get i).inD D

mutual
theorem avOf_real (ρ : Rho) (D : Dom) : ∀ (f : Nat) (v : Value) (x : AV), avOf f v = some x → real ρ x = v ∧ x.inD D
  | 0, _, _, h => by simp [avOf] at h
  | f + 1, v, x, h => by
    cases v with
    | bool b => simp [avOf] at h; subst h; simp [real, AV.inD]
    | int k n => simp [avOf] at h; subst h; simp [real, AV.inD]
    | float k b => simp [avOf] at h
    | complex k a b => simp [avOf] at h
    | string s => simp [avOf] at h; subst h; cases s; simp [real, AV.inD]
    | pointer a =>
      cases a with
      | none => simp [avOf] at h; subst h; simp [real, AV.inD]
      | some a => simp [avOf] at h
    | slice a l c =>
      cases a with
      | some a => simp [avOf] at h
      | none =>
        cases l with
        | succ l => simp [avOf] at h
        | zero =>
          cases c with
          | succ c => simp [avOf] at h
          | zero => simp [avOf] at h; subst h; simp [real, AV.inD]
    | map r =>
      cases r with
      | none => simp [avOf] at h; subst h; simp [real, AV.inD]
      | some a => simp [avOf] at h
    | chan r => simp [avOf] at h
    | func fn a c =>
      cases fn with
      | func g =>
        simp only [avOf] at h
        cases ha : avsOf f a.toList with
        | none => simp [ha] at h
        | some xs =>
          cases hc : avsOf f c.toList with
          | none => simp [ha, hc] at h
          | some ys =>
            simp [ha, hc] at h
            subst h
            have h1 := avsOf_real ρ D f _ _ ha
            have h2 := avsOf_real ρ D f _ _ hc
            simp [real, AV.inD, h1, h2]
      | _ => simp [avOf] at h
    | nilFunc => simp [avOf] at h; subst h; simp [real, AV.inD]
    | iface t v =>
      simp only [avOf, Option.map_eq_some_iff] at h
      obtain ⟨y, hy, rfl⟩ := h
      have := avOf_real ρ D f v y hy
      simp [real, AV.inD, this]
    | nilIface => simp [avOf] at h; subst h; simp [real, AV.inD]
    | agg cs =>
      simp only [avOf, Option.map_eq_some_iff] at h
      obtain ⟨y, hy, rfl⟩ := h
      have := avsOf_real ρ D f _ y hy
      simp [real, AV.inD, this]
    | tuple cs =>
      simp only [avOf, Option.map_eq_some_iff] at h
      obtain ⟨y, hy, rfl⟩ := h
      have := avsOf_real ρ D f _ y hy
      simp [real, AV.inD, this]
theorem avsOf_real (ρ : Rho) (D : Dom) : ∀ (f : Nat) (l : List Value) (xs : List AV), avsOf f l = some xs → reals ρ xs = l ∧ allD D xs
  | 0, _, _, h => by simp [avsOf] at h
  | f + 1, [], xs, h => by simp [avsOf] at h; subst h; simp [reals, allD]
  | f + 1, v :: vs, xs, h => by
    simp only [avsOf] at h
    cases ha : avOf f v with
    | none => simp [ha] at h
    | some y =>
      cases hc : avsOf f vs with
      | none => simp [ha, hc] at h
      | some ys =>
        simp [ha, hc] at h
        subst h
        have h1 := avOf_real ρ D f _ _ ha
        have h2 := avsOf_real ρ D f _ _ hc
        simp [reals, allD, h1, h2]
end

variable {n : Nat} {env : Env} {a : Act}

theorem rand_real (he : EInv ρ D n env a) {x : Operand} {r : Rand} (hr : randOf x = some r) : a.eval x = real ρ (env.ev r) ∧ (env.ev r).inD D := by
  cases x with
  | tmp t => simp [randOf] at hr; subst hr; exact ⟨he.get t, he.dom t⟩
  | const v =>
    simp only [randOf, Option.map_eq_some_iff] at hr
    obtain ⟨y, hy, rfl⟩ := hr
    have := avOf_real ρ D _ v y hy
    exact ⟨this.1.symm, this.2⟩
  | global g => simp [randOf] at hr
  | func f => simp [randOf] at hr; subst hr; simp [Act.eval, Env.ev, real, reals, AV.inD, allD]

theorem rands_real (he : EInv ρ D n env a) : ∀ {xs : List Operand} {rs : List Rand}, randsOf xs = some rs → xs.map a.eval = reals ρ (rs.map env.ev) ∧ allD D (rs.map env.ev)
  | [], rs, h => by simp [randsOf] at h; subst h; simp [reals, allD]
  | x :: xs, rs, h => by
    simp only [randsOf] at h
    cases h1 : randOf x with
    | none => simp [h1] at h
    | some r =>
      cases h2 : randsOf xs with
      | none => simp [h1, h2] at h
      | some rs' =>
        simp [h1, h2] at h
        subst h
        have e1 := rand_real he h1
        have e2 := rands_real he h2
        simp only [List.map_cons, reals, allD]
        exact ⟨by rw [e1.1, e2.1], e1.2, e2.2⟩

theorem rands_one {x : Operand} {rs : List Rand} (h : randsOf [x] = some rs) : ∃ r, rs = [r] ∧ randOf x = some r := by
  simp only [randsOf] at h
  cases h1 : randOf x with
  | none => simp [h1] at h
  | some r => simp [h1] at h; exact ⟨r, h.symm, rfl⟩

theorem rands_cons {x : Operand} {xs : List Operand} {rs : List Rand} (h : randsOf (x :: xs) = some rs) : ∃ r rs', rs = r :: rs' ∧ randOf x = some r ∧ randsOf xs = some rs' := by
  simp only [randsOf] at h
  cases h1 : randOf x with
  | none => simp [h1] at h
  | some r =>
    cases h2 : randsOf xs with
    | none => simp [h1, h2] at h
    | some rs' => simp [h1, h2] at h; exact ⟨r, rs', h.symm, rfl, rfl⟩

theorem rands_two {x y : Operand} {rs : List Rand} (h : randsOf [x, y] = some rs) : ∃ r s, rs = [r, s] ∧ randOf x = some r ∧ randOf y = some s := by
  obtain ⟨r, rs', rfl, h1, h2⟩ := rands_cons h
  obtain ⟨s, rfl, h3⟩ := rands_one h2
  exact ⟨r, s, rfl, h1, h3⟩

theorem rands_three {x y z : Operand} {rs : List Rand} (h : randsOf [x, y, z] = some rs) : ∃ r s t, rs = [r, s, t] ∧ randOf x = some r ∧ randOf y = some s ∧ randOf z = some t := by
  obtain ⟨r, rs', rfl, h1, h2⟩ := rands_cons h
  obtain ⟨s, t, rfl, h3⟩ := rands_two h2
  exact ⟨r, s, t, rfl, h1, h3⟩

theorem one_some {op : IOp} {xs : List Operand} {p : IOp × List Rand} (h : one op xs = some p) : ∃ rs, randsOf xs = some rs ∧ p = (op, rs) := by
  simp only [one, Option.map_eq_some_iff] at h
  obtain ⟨rs, h1, h2⟩ := h
  exact ⟨rs, h1, h2.symm⟩

theorem run_typeInfo {t : TypeId} {i : TypeInfo} (h : P.info? t = some i) : (typeInfo t).run P w = .ok i w := by simp [typeInfo, h]
theorem run_sizeOf {t : TypeId} {k : Nat} (h : sizeT P t = some k) : (sizeOf t).run P w = .ok k w := by
  simp only [sizeT, Option.map_eq_some_iff] at h
  obtain ⟨i, hi, rfl⟩ := h
  simp [sizeOf, run_typeInfo hi]
theorem run_isAgg {t : TypeId} {g : Bool} (h : isAggT P t = some g) : (isAgg t).run P w = .ok g w := by
  simp only [isAggT, Option.map_eq_some_iff] at h
  obtain ⟨d, hd, rfl⟩ := h
  unfold isAgg
  rw [Sem.run_bind, run_underlying hd]
  cases d <;> rfl
theorem run_zeroValue {t : TypeId} {z : AV} (h : zeroT P t = some z) (ρ : Rho) (D : Dom) : (zeroValue t).run P w = .ok (real ρ z) w ∧ z.inD D := by
  unfold zeroT at h
  cases hi : P.info? t with
  | none => simp [hi] at h
  | some i =>
    simp only [hi, Option.bind_eq_some_iff] at h
    obtain ⟨v, hv, hz⟩ := h
    have := avOf_real ρ D _ v z hz
    exact ⟨by simp [zeroValue, run_typeInfo hi, hv, this.1], this.2⟩

theorem add_real (L : Loc) (o k : Nat) : Addr.add ⟨L.blk, L.off + o, none⟩ k = ⟨L.blk, L.off + (o + k), none⟩ := by
  unfold Addr.add; split
  · rename_i e; subst e; rfl
  · simp [Nat.add_assoc]

theorem asNat_int {v : AV} {i : Nat} (h : asNat v = some i) : ∃ k, v = .int k (i : Int) := by
  cases v with
  | int k n =>
    cases n with
    | ofNat m => simp [asNat] at h; subst h; exact ⟨k, rfl⟩
    | negSucc m => simp [asNat] at h
  | _ => simp [asNat] at h

theorem reals_length (ρ : Rho) (l : List AV) : (reals ρ l).length = l.length := by rw [reals_eq]; simp
theorem reals_get (ρ : Rho) (l : List AV) (i : Nat) : (reals ρ l)[i]? = (l[i]?).map (real ρ) := by rw [reals_eq, List.getElem?_map]
theorem reals_take (ρ : Rho) (l : List AV) (k : Nat) : reals ρ (l.take k) = (reals ρ l).take k := by simp [reals_eq]
theorem reals_drop (ρ : Rho) (l : List AV) (k : Nat) : reals ρ (l.drop k) = (reals ρ l).drop k := by simp [reals_eq]
theorem reals_append (ρ : Rho) (l m : List AV) : reals ρ (l ++ m) = reals ρ l ++ reals ρ m := by simp [reals_eq]

theorem part_real {t : TypeId} {g : Bool} {k off : Nat} {cs : List AV} {v : AV} (hg : isAggT P t = some g) (hk : sizeT P t = some k) (hp : part cs off k g = some v) (hd : allD D cs) :
    (Go.part t (reals ρ cs).toArray off).run P w = .ok (real ρ v) w ∧ v.inD D := by
  unfold Go.part
  rw [Sem.run_bind, run_isAgg hg]
  simp only [Result.andThen]
  unfold part at hp
  cases g with
  | true =>
    simp only [cond_true] at hp
    cases hb : Nat.ble (off + k) cs.length with
    | false => simp [hb] at hp
    | true =>
      simp only [hb, cond_true, Option.some.injEq] at hp
      subst hp
      have hle := Nat.le_of_ble_eq_true hb
      simp only [if_true, Sem.run_bind, run_sizeOf hk, Result.andThen, Sem.run_pure, real, AV.inD]
      refine ⟨?_, ?_⟩
      · congr 2
        rw [reals_take, reals_drop]
        apply Array.ext'
        simp [List.extract_eq_take_drop]
      · rw [allD_iff] at hd ⊢
        exact fun x hx => hd x (List.mem_of_mem_drop (List.mem_of_mem_take hx))
  | false =>
    simp only [cond_false] at hp
    have : (reals ρ cs).toArray[off]? = some (real ρ v) := by
      rw [List.getElem?_toArray, reals_get, hp]; rfl
    refine ⟨by simp only [Bool.false_eq_true, if_false, this, Sem.run_pure], (allD_iff D cs).1 hd v (List.mem_of_getElem? hp)⟩

end
end Ads
end Go.Proofs.Ytflmbknimebmnaa
