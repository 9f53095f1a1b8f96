/-
  What the model runs of an operation without memory is what 'pI' says: all of them.
-/
import Derived.Test.YtflmbknimebmnaaAdsPureB
namespace Go.Proofs.Ytflmbknimebmnaa
namespace Ads
section
variable {P : Program} {ρ : Rho} {D : Dom} {w : World} {n : Nat} {env : Env} {a : Act}

theorem eq_real {k : EqK} {t : TypeId} {x y : AV} {b : Bool} (hk : eqKOf P t = some k) (h : eqA k x y = some b) :
    (Op.equal t (real ρ x) (real ρ y)).run P w = .ok b w := by
  unfold Op.equal Op.maxDepth
  unfold eqKOf at hk
  unfold Op.equalIn
  cases hu : P.underlying t with
  | none => simp [hu] at hk
  | some d =>
    rw [Sem.run_bind, run_underlying hu]
    simp only [Result.andThen]
    unfold eqA at h
    split at h
    case h_19 => simp at h
    all_goals (cases d <;> simp [hu] at hk <;> simp at h <;> subst h <;> simp [real])

theorem guard_real {op : BinOp} {t : TypeId} {o1 o2 : Operand} {k : EqK} {x y : AV} {b : Bool} (hk : eqKOf P t = some k) (hc : (isConstO o1 || isConstO o2 || !isIfaceT P t) = true)
    (h : eqA k x y = some b) : (eqGuard op t o1 o2 (real ρ x) (real ρ y)).run P w = .ok () w := by
  unfold eqGuard
  cases op
  case eql | neq =>
    simp only [Bool.not_true, Bool.false_eq_true, if_false]
    unfold eqA at h
    split at h
    case h_19 => simp at h
    case h_16 =>
      have hi : isIfaceT P t = true := by
        unfold eqKOf at hk; unfold isIfaceT
        cases hu : P.underlying t with
        | none => simp [hu] at hk
        | some d => cases d <;> simp [hu] at hk ⊢
      simp only [hi, Bool.not_true, Bool.or_false] at hc
      simp only [real]
      cases o1 <;> cases o2 <;> simp [isConstO] at hc ⊢
    all_goals simp [real]
  all_goals rfl

theorem binop_eq {k : EqK} {t : TypeId} {x y : AV} {b : Bool} (h : eqA k x y = some b) :
    binOp .eql t (real ρ x) (real ρ y) = (do pure (.bool (← Op.equal t (real ρ x) (real ρ y)))) ∧
    binOp .neq t (real ρ x) (real ρ y) = (do pure (.bool (!(← Op.equal t (real ρ x) (real ρ y))))) := by
  unfold eqA at h
  split at h
  case h_19 => simp at h
  all_goals (simp only [real]; exact ⟨rfl, rfl⟩)

theorem execOp_bin (o : Oper) (op : BinOp) (t : TypeId) (x y : Operand) (yt : TypeId) (ρv : Operand → Value) (ho : o.op = .binOp op t x y yt) :
    execOp ρv o = (do pure (.value (← (do eqGuard op t x y (ρv x) (ρv y); binOp op t (ρv x) (ρv y) : Sem Value)))) := by
  unfold execOp; rw [ho]

theorem binop_sound {o : Oper} {op : BinOp} {t yt : TypeId} {x y : Operand} {p : POp} {rs : List Rand} {v : AV} (he : EInv ρ D n env a)
    (ho : o.op = .binOp op t x y yt) (hc : compOp P o.op = some (.p p, rs)) (hv : pI p (rs.map env.ev) = some v) : Val P ρ D w (execOp a.eval o) v := by
  rw [execOp_bin o op t x y yt _ ho]
  rw [ho] at hc
  have two : ∀ {q : IOp}, one q [x, y] = some (.p p, rs) → q = .p p ∧ ∃ r s, rs = [r, s] ∧ a.eval x = real ρ (env.ev r) ∧ a.eval y = real ρ (env.ev s) := by
    intro q h
    obtain ⟨rs', h1, h2⟩ := one_some h
    simp only [Prod.mk.injEq] at h2
    obtain ⟨r, s, rfl, hr, hs⟩ := rands_two h1
    exact ⟨h2.1.symm, r, s, h2.2, (rand_real he hr).1, (rand_real he hs).1⟩
  simp only [compOp] at hc
  have eqcase : ∀ (neg : Bool) (k : EqK), eqKOf P t = some k → (isConstO x || isConstO y || !isIfaceT P t) = true → (op = .eql ∧ neg = false ∨ op = .neq ∧ neg = true) →
      (∀ k', P.underlying t ≠ some (.int k')) → P.underlying t ≠ some .string →
      one (.p (cond neg (.neq k) (.eq k))) [x, y] = some (.p p, rs) → Val P ρ D w (do pure (.value (← (do eqGuard op t x y (a.eval x) (a.eval y); binOp op t (a.eval x) (a.eval y) : Sem Value)))) v := by
    intro neg k hk hcc hop hni hns h1
    obtain ⟨hq, r, s, rfl, e1, e2⟩ := two h1
    simp only [IOp.p.injEq] at hq
    subst hq
    simp only [List.map_cons, List.map_nil] at hv
    have hb : ∃ b, eqA k (env.ev r) (env.ev s) = some b ∧ v = .bool (cond neg (!b) b) := by
      cases neg
      · simp only [cond_false, pI, Option.map_eq_some_iff] at hv
        obtain ⟨b, hb, rfl⟩ := hv
        exact ⟨b, hb, rfl⟩
      · simp only [cond_true, pI, Option.map_eq_some_iff] at hv
        obtain ⟨b, hb, rfl⟩ := hv
        exact ⟨b, hb, rfl⟩
    obtain ⟨b, hb, rfl⟩ := hb
    refine val_of ?_ (by simp [AV.inD])
    rw [Sem.run_bind, e1, e2, guard_real hk hcc hb]
    simp only [Result.andThen]
    have heq := eq_real (ρ := ρ) (w := w) hk hb
    rcases hop with ⟨rfl, rfl⟩ | ⟨rfl, rfl⟩
    · rw [(binop_eq hb).1, Sem.run_bind, heq]; simp [Result.andThen, real]
    · rw [(binop_eq hb).2, Sem.run_bind, heq]; simp [Result.andThen, real]
  have bincase : one (.p (.bin op)) [x, y] = some (.p p, rs) → Val P ρ D w (do pure (.value (← (do eqGuard op t x y (a.eval x) (a.eval y); binOp op t (a.eval x) (a.eval y) : Sem Value)))) v := by
    intro h1
    obtain ⟨hq, r, s, rfl, e1, e2⟩ := two h1
    simp only [IOp.p.injEq] at hq
    subst hq
    simp only [List.map_cons, List.map_nil, pI] at hv
    have := bin_real (P := P) (ρ := ρ) (D := D) (w := w) (o1 := x) (o2 := y) (t := t) hv
    rw [e1, e2]
    exact val_of this.1 this.2
  cases hu : P.underlying t with
  | none =>
    simp only [hu] at hc
    cases op <;> simp [eqKOf, hu] at hc
  | some d =>
    by_cases hint : ∃ k, d = .int k
    · obtain ⟨k, rfl⟩ := hint
      simp only [hu] at hc
      exact bincase hc
    · by_cases hstr : d = .string
      · subst hstr
        simp only [hu] at hc
        exact bincase hc
      · have hni : ∀ k', P.underlying t ≠ some (.int k') := by
          intro k' e; rw [hu] at e; simp at e; exact hint ⟨k', e⟩
        have hns : P.underlying t ≠ some .string := by
          intro e; rw [hu] at e; simp at e; exact hstr e
        have hc' : (match op with
            | .eql => if isConstO x || isConstO y || !isIfaceT P t then (eqKOf P t).bind fun k => one (.p (.eq k)) [x, y] else none
            | .neq => if isConstO x || isConstO y || !isIfaceT P t then (eqKOf P t).bind fun k => one (.p (.neq k)) [x, y] else none
            | _ => none) = some (.p p, rs) := by
          revert hc
          cases d <;> first | (exfalso; exact hint ⟨_, rfl⟩) | (exfalso; exact hstr rfl) | (simp only [hu]; exact id)
        cases op <;> simp only at hc' <;> try (simp at hc'; done)
        · split at hc'
          · rename_i hcc
            simp only [Option.bind_eq_some_iff] at hc'
            obtain ⟨k, hk, h1⟩ := hc'
            exact eqcase false k hk hcc (.inl ⟨rfl, rfl⟩) hni hns h1
          · simp at hc'
        · split at hc'
          · rename_i hcc
            simp only [Option.bind_eq_some_iff] at hc'
            obtain ⟨k, hk, h1⟩ := hc'
            exact eqcase true k hk hcc (.inr ⟨rfl, rfl⟩) hni hns h1
          · simp at hc'
end
end Ads
end Go.Proofs.Ytflmbknimebmnaa
