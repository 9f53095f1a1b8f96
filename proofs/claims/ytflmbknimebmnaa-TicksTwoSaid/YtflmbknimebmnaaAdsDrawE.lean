/-
  Regions that draw their order: an effect is done.
-/
import Derived.Test.YtflmbknimebmnaaAdsDrawD
set_option linter.unusedSimpArgs false
set_option linter.unusedVariables false
namespace Go.Proofs.Ytflmbknimebmnaa
namespace Ads

section
variable {P : Program} {H0 : Nat} {D : Dom} {N : Nat} {l : List Ins} {bs : List Nat} {e : Env} {h : Heap} {tr : List Mark1} {e' : Env} {h' : Heap}
  {ρ0 : Rho} {w0 : World} {a0 : Act} {S : Nat → Bool} {c : Nat} {ρ : Rho} {a : Act} {w : World} {i : Nat} {x : Ins} {m : Mark1} {ro : Option Nat} {n : Nat}

/-- Some slots alone. -/
def only (e : Env) : List Nat → Env
  | [] => .nil
  | d :: ds => Tr.set (only e ds) d (e.get d)

theorem only_get (e : Env) (d : Nat) : ∀ ds : List Nat, (only e ds).get d = if d ∈ ds then e.get d else .undef
  | [] => by simp [only, Env.get, Tr.get]
  | x :: ds => by
    show ((Tr.set (only e ds) x (e.get x)).get d).getD .undef = _
    rw [Tr.get_set]
    by_cases hx : d = x
    · subst hx; simp
    · rw [if_neg hx]
      have := only_get e d ds
      unfold Env.get at this
      simp only [List.mem_cons, hx, false_or]
      exact this

def actOf (ρ : Rho) (N : Nat) (e : Env) (a : Act) : Act := { a with tmps := Array.ofFn (n := N) fun i => real ρ (e.get i) }

theorem actOf_inv {D : Dom} (hh : ∀ i, N ≤ i → real ρ (e.get i) = Go.undef) (hd : ∀ i, (e.get i).inD D) : EInv ρ D N e (actOf ρ N e a) where
  size := by simp [actOf]
  get := fun i => by
    by_cases hi : i < N
    · simp [actOf, Array.getD_eq_getD_getElem?, hi]
    · rw [hh i (by omega)]
      simp [actOf, Array.getD_eq_getD_getElem?, hi]
  dom := hd

theorem comp_operands {op : Op} {iop : IOp} {rs : List Rand} (hc : compOp P op = some (iop, rs)) (he : isEff iop = true) :
    (∀ cs b, op ≠ .select cs b) ∧ ∀ y ∈ op.operands, ∃ r ∈ rs, randOf y = some r := by
  have key : ∀ (xs : List Operand) (rs : List Rand), randsOf xs = some rs → ∀ y ∈ xs, ∃ r ∈ rs, randOf y = some r := by
    intro xs
    induction xs with
    | nil => intro rs h y hy; simp at hy
    | cons z xs ih =>
      intro rs h y hy
      obtain ⟨r, rs', rfl, h1, h2⟩ := rands_cons h
      rcases List.mem_cons.1 hy with rfl | hy
      · exact ⟨r, by simp, h1⟩
      · obtain ⟨r', hr', h3⟩ := ih rs' h2 y hy
        exact ⟨r', by simp [hr'], h3⟩
  cases op
  case store t a y =>
    simp only [compOp, Option.bind_eq_some_iff] at hc
    obtain ⟨k, _, hc⟩ := hc
    simp only [one, Option.map_eq_some_iff, Prod.mk.injEq] at hc
    obtain ⟨rs', hr, _, rfl⟩ := hc
    exact ⟨by simp, fun y hy => key _ _ hr y (by simpa [Op.operands] using hy)⟩
  case panic y =>
    simp only [compOp, one, Option.map_eq_some_iff, Prod.mk.injEq] at hc
    obtain ⟨rs', hr, _, rfl⟩ := hc
    exact ⟨by simp, fun y hy => key _ _ hr y (by simpa [Op.operands] using hy)⟩
  case call k =>
    refine ⟨by simp, fun y hy => ?_⟩
    simp only [compOp] at hc
    split at hc
    · rename_i f hf
      simp only [Option.map_eq_some_iff, Prod.mk.injEq] at hc
      obtain ⟨rs', hr, _, rfl⟩ := hc
      exact key _ _ hr y (by simpa [Op.operands, Call.operands, hf] using hy)
    · rename_i f nm hf
      simp only [Option.map_eq_some_iff, Prod.mk.injEq] at hc
      obtain ⟨rs', hr, _, rfl⟩ := hc
      exact key _ _ hr y (by simpa [Op.operands, Call.operands, hf] using hy)
    · rename_i b hf
      have hops : (Op.call k).operands = k.args := by simp [Op.operands, Call.operands, hf]
      rw [hops] at hy
      have hy' : y ∈ k.args.toList := by simpa using hy
      split at hc
      · exfalso
        repeat' (first
          | (obtain ⟨h2, _⟩ := one_of hc; subst h2; simp [isEff] at he; done)
          | (simp at hc; done)
          | (split at hc))
      · exfalso; obtain ⟨h2, _⟩ := one_of hc; subst h2; simp [isEff] at he
      · exfalso; obtain ⟨h2, _⟩ := one_of hc; subst h2; simp [isEff] at he
      · rename_i s z t u ts hargs htypes
        rw [hargs] at hy'
        split at hc
        · split at hc
          · simp at hc
          · split at hc
            · split at hc
              · simp at hc
              · exact key _ _ (one_of hc).2 y hy'
            · simp at hc
        · simp at hc
      · rename_i s z t ts hargs htypes
        rw [hargs] at hy'
        split at hc
        · simp only [Option.bind_eq_some_iff] at hc
          obtain ⟨size, hsz, hc⟩ := hc
          exact key _ _ (one_of hc).2 y hy'
        · simp at hc
      · exfalso
        repeat' (first
          | (simp only [Option.bind_eq_some_iff] at hc; obtain ⟨_, _, hc⟩ := hc)
          | (obtain ⟨h2, _⟩ := one_of hc; subst h2; simp [isEff] at he; done)
          | (simp at hc; done)
          | (split at hc))
      · simp at hc
  case unOp u t y =>
    exfalso
    cases u <;> simp only [compOp] at hc <;> first
      | (obtain ⟨h2, _⟩ := one_of hc; subst h2; simp [isEff] at he; done)
      | (simp at hc; done)
  case makeMap t r =>
    exfalso
    cases r with
    | none => simp only [compOp] at hc; obtain ⟨h2, _⟩ := one_of hc; subst h2; simp [isEff] at he
    | some r => simp [compOp] at hc
  all_goals (exfalso; simp only [compOp] at hc)
  all_goals repeat' (first
    | (simp only [Option.bind_eq_some_iff] at hc; obtain ⟨_, _, hc⟩ := hc)
    | (simp only [Option.map_eq_some_iff] at hc; obtain ⟨_, _, hc⟩ := hc; simp only [Prod.mk.injEq] at hc; obtain ⟨hc, _⟩ := hc; subst hc; simp [isEff] at he; done)
    | (obtain ⟨h2, _⟩ := one_of hc; subst h2; simp [isEff] at he; done)
    | (simp at hc; done)
    | (split at hc))

end
end Ads
end Go.Proofs.Ytflmbknimebmnaa
