/-
  All operations without memory together.
-/
import Derived.Test.YtflmbknimebmnaaAdsPureE
set_option linter.unusedSimpArgs false
set_option linter.unusedVariables false
namespace Go.Proofs.Ytflmbknimebmnaa
namespace Ads
section
variable {P : Program} {ρ : Rho} {D : Dom} {w : World} {n : Nat} {env : Env} {a : Act}

theorem unop_sound {u : UnOp} {t : TypeId} {x : Operand} {p : POp} {rs : List Rand} {v : AV} (he : EInv ρ D n env a) (hc : compOp P (.unOp u t x) = some (.p p, rs)) (hv : pI p (rs.map env.ev) = some v) :
    Val P ρ D w (do pure (.value (← Op.unary u (a.eval x)))) v := by
  cases u <;> simp only [compOp] at hc
  case not =>
    obtain ⟨hq, r, rfl, e1, d1⟩ := one_one he hc
    simp only [IOp.p.injEq] at hq
    subst hq
    simp only [List.map_cons, List.map_nil] at hv
    rw [e1]
    cases hr : env.ev r with
    | bool b =>
      rw [hr] at hv
      simp only [pI, Option.some.injEq] at hv
      subst hv
      exact val_of (by simp [Op.unary, real]) (by simp [AV.inD])
    | _ => rw [hr] at hv; simp [pI] at hv
  case neg =>
    obtain ⟨hq, r, rfl, e1, d1⟩ := one_one he hc
    simp only [IOp.p.injEq] at hq
    subst hq
    simp only [List.map_cons, List.map_nil] at hv
    rw [e1]
    cases hr : env.ev r with
    | int k m =>
      rw [hr] at hv
      simp only [pI, Option.some.injEq] at hv
      subst hv
      exact val_of (by simp [Op.unary, Op.intArith, real]) (by simp [AV.inD])
    | _ => rw [hr] at hv; simp [pI] at hv
  all_goals simp at hc

theorem mkiface_sound {t : TypeId} {x : Operand} {p : POp} {rs : List Rand} {v : AV} (he : EInv ρ D n env a) (hc : compOp P (.makeInterface t x) = some (.p p, rs)) (hv : pI p (rs.map env.ev) = some v) :
    Val P ρ D w (do pure (.value (← Instr.makeInterface t (a.eval x)))) v := by
  simp only [compOp] at hc
  split at hc
  · simp at hc
  · rename_i d hni hu
    obtain ⟨hq, r, rfl, e1, d1⟩ := one_one he hc
    simp only [IOp.p.injEq] at hq
    subst hq
    simp only [List.map_cons, List.map_nil, pI, Option.some.injEq] at hv
    subst hv
    rw [e1]
    refine val_of ?_ (by simpa [AV.inD] using d1)
    unfold Instr.makeInterface
    rw [Sem.run_bind, run_underlying hu]
    simp only [Result.andThen]
    simp [real]
  · simp at hc

theorem mkfunc_sound {fn : Fn} {first capt : Array Operand} {p : POp} {rs : List Rand} {v : AV} (he : EInv ρ D n env a) (hc : compOp P (.makeFunc fn first capt) = some (.p p, rs)) (hv : pI p (rs.map env.ev) = some v) :
    Val P ρ D w (do pure (.value (← Instr.makeFunc fn (first.map a.eval) (capt.map a.eval)))) v := by
  simp only [compOp] at hc
  split at hc
  · simp at hc
  · rename_i hny
    obtain ⟨rs', h1, h2⟩ := one_some hc
    simp only [Prod.mk.injEq, IOp.p.injEq] at h2
    obtain ⟨rfl, rfl⟩ := h2
    simp only [pI, Option.some.injEq] at hv
    subst hv
    have hr := rands_real he h1
    have hlen : (rs.map env.ev).length = first.toList.length + capt.toList.length := by
      have := congrArg List.length hr.1
      simp [reals_length] at this ⊢
      omega
    have hd := (allD_iff D _).1 hr.2
    refine val_of ?_ ?_
    · simp only [Instr.makeFunc, Sem.run_pure, real, reals_take, reals_drop, ← hr.1]
      congr 2
      · apply Array.ext'; simp
      · apply Array.ext'; simp
    · simp only [AV.inD, allD_iff]
      exact ⟨hny, fun x hx => hd x (List.mem_of_mem_take hx), fun x hx => hd x (List.mem_of_mem_drop hx)⟩

theorem tassert_sound {t xt : TypeId} {x : Operand} {ok : Bool} {p : POp} {rs : List Rand} {v : AV} (he : EInv ρ D n env a) (hc : compOp P (.typeAssert x xt t ok) = some (.p p, rs)) (hv : pI p (rs.map env.ev) = some v) :
    Val P ρ D w (do pure (.value (← Instr.typeAssert (a.eval x) xt t ok))) v := by
  simp only [compOp] at hc
  split at hc
  · simp at hc
  · rename_i d dx hni hu hux
    simp only [Option.bind_eq_some_iff] at hc
    obtain ⟨z, hz, hc⟩ := hc
    obtain ⟨hq, r, rfl, e1, d1⟩ := one_one he hc
    simp only [IOp.p.injEq] at hq
    subst hq
    simp only [List.map_cons, List.map_nil] at hv
    rw [e1]
    have hzv := run_zeroValue (P := P) (w := w) hz ρ D
    have key : ∀ (xv : Value), (Instr.typeAssert xv xt t ok).run P w = (match xv with
        | .nilIface => (if ok then (do pure (.tuple #[← zeroValue t, .bool false]) : Sem Value) else runtimePanic (.typeAssertion (some xt) none t "")).run P w
        | .iface u y => if u = t then (pure (if ok then .tuple #[y, .bool true] else y) : Sem Value).run P w else (if ok then (do pure (.tuple #[← zeroValue t, .bool false]) : Sem Value) else runtimePanic (.typeAssertion (some xt) (some u) t "")).run P w
        | _ => (stuck "TypeAssert: interface value expected" : Sem Value).run P w) := by
      intro xv
      unfold Instr.typeAssert
      rw [Sem.run_bind, run_underlying hu]
      simp only [Result.andThen]
      cases d <;> first | (exfalso; exact hni _ rfl) | (cases xv <;> simp only [] <;> first | rfl | (split <;> rfl))
    cases hr : env.ev r with
    | iface u y =>
      rw [hr] at hv d1
      simp only [pI] at hv
      simp only [AV.inD] at d1
      cases hb : Nat.beq u t with
      | true =>
        have hut := Nat.eq_of_beq_eq_true hb
        simp only [hb, cond_true] at hv
        cases ok with
        | true =>
          simp only [cond_true, Option.some.injEq] at hv
          subst hv
          refine val_of ?_ (by simp [AV.inD, allD, d1])
          simp [key, real, reals, hut]
        | false =>
          simp only [cond_false, Option.some.injEq] at hv
          subst hv
          refine val_of ?_ d1
          simp [key, real, hut]
      | false =>
        have hut : u ≠ t := fun e => by rw [e, Nat.beq_refl] at hb; simp at hb
        simp only [hb, cond_false] at hv
        cases ok with
        | true =>
          simp only [cond_true, Option.some.injEq] at hv
          subst hv
          refine val_of ?_ (by simp [AV.inD, allD, hzv.2])
          simp [key, real, reals, hut, hzv.1, Result.andThen]
        | false => simp at hv
    | nili =>
      rw [hr] at hv
      simp only [pI] at hv
      cases ok with
      | true =>
        simp only [cond_true, Option.some.injEq] at hv
        subst hv
        refine val_of ?_ (by simp [AV.inD, allD, hzv.2])
        simp [key, real, reals, hzv.1, Result.andThen]
      | false => simp at hv
    | _ => rw [hr] at hv; simp [pI] at hv
  · simp at hc

theorem fold2_max : ∀ (r : List AV) (x v : AV), fold2 max2 x r = some v → ((reals ρ r).foldlM Builtin.max2 (real ρ x)).run P w = .ok (real ρ v) w ∧ (x.inD D → v.inD D)
  | [], x, v, h => by simp [fold2] at h; subst h; simp [reals]
  | y :: r, x, v, h => by
    simp only [fold2] at h
    cases hz : max2 x y with
    | none => simp [hz] at h
    | some z =>
      simp only [hz] at h
      have ih := fold2_max r z v h
      simp only [reals, List.foldlM_cons, Sem.run_bind]
      cases x <;> cases y <;> simp [max2] at hz
      subst hz
      refine ⟨?_, fun _ => ih.2 (by simp [AV.inD])⟩
      rw [← ih.1]
      simp only [real, Builtin.max2, Sem.run_pure, Result.andThen]
      congr 2
      rename_i k p k' q
      by_cases hpq : q > p <;> simp [hpq]

theorem fold2_min : ∀ (r : List AV) (x v : AV), fold2 min2 x r = some v → ((reals ρ r).foldlM Builtin.min2 (real ρ x)).run P w = .ok (real ρ v) w ∧ (x.inD D → v.inD D)
  | [], x, v, h => by simp [fold2] at h; subst h; simp [reals]
  | y :: r, x, v, h => by
    simp only [fold2] at h
    cases hz : min2 x y with
    | none => simp [hz] at h
    | some z =>
      simp only [hz] at h
      have ih := fold2_min r z v h
      simp only [reals, List.foldlM_cons, Sem.run_bind]
      cases x <;> cases y <;> simp [min2] at hz
      subst hz
      refine ⟨?_, fun _ => ih.2 (by simp [AV.inD])⟩
      rw [← ih.1]
      simp only [real, Builtin.min2, Sem.run_pure, Result.andThen]
      congr 2
      rename_i k p k' q
      by_cases hpq : q < p <;> simp [hpq]

theorem exec_builtin (o : Oper) (c : Call) (b : Builtin) (ho : o.op = .call c) (hb : c.callee = .builtin b) :
    execOp a.eval o = builtin b c.argTypes o.type (c.args.map fun | .const _ => true | _ => false) (c.args.map a.eval) := by
  unfold execOp
  rw [ho]
  simp only [resolve, hb]
  rfl

theorem args_map {c : Call} {xs : List Operand} {ys : List Value} (h : c.args.toList = xs) (e : xs.map a.eval = ys) : c.args.map a.eval = ys.toArray := by
  apply Array.ext'
  rw [Array.toList_map, h, e]

theorem types_of {c : Call} {ts : List TypeId} (h : c.argTypes.toList = ts) : c.argTypes = ts.toArray := by
  apply Array.ext'; rw [h]

theorem builtin_sound {o : Oper} {c : Call} {p : POp} {rs : List Rand} {v : AV} (he : EInv ρ D n env a) (ho : o.op = .call c) (hc : compOp P (.call c) = some (.p p, rs)) (hv : pI p (rs.map env.ev) = some v) :
    Val P ρ D w (execOp a.eval o) v := by
  simp only [compOp] at hc
  split at hc
  · rename_i f _
    simp only [Option.map_eq_some_iff] at hc
    obtain ⟨_, _, h2⟩ := hc
    simp at h2
  · simp only [Option.map_eq_some_iff] at hc
    obtain ⟨_, _, h2⟩ := hc
    simp at h2
  · rename_i b hcb
    rw [exec_builtin o c b ho hcb]
    split at hc
    · rename_i x t hargs htypes
      rw [types_of htypes]
      split at hc
      · rename_i e hu
        obtain ⟨hq, r, rfl, e1, d1⟩ := one_one he hc
        simp only [IOp.p.injEq] at hq
        subst hq
        rw [args_map hargs (ys := [real ρ (env.ev r)]) (by simp [e1])]
        simp only [List.map_cons, List.map_nil] at hv
        cases hr : env.ev r with
        | sl b o len cap opn =>
          rw [hr] at hv
          simp only [pI, Option.some.injEq] at hv
          subst hv
          refine val_of ?_ (by simp [AV.inD])
          simp [Builtin.len_, run_underlying hu, Result.andThen, real, goInt]
        | nils =>
          rw [hr] at hv
          simp only [pI, Option.some.injEq] at hv
          subst hv
          refine val_of ?_ (by simp [AV.inD])
          simp [Builtin.len_, run_underlying hu, Result.andThen, real, goInt]
        | _ => rw [hr] at hv; simp [pI] at hv
      · rename_i hu
        obtain ⟨hq, r, rfl, e1, d1⟩ := one_one he hc
        simp only [IOp.p.injEq] at hq
        subst hq
        rw [args_map hargs (ys := [real ρ (env.ev r)]) (by simp [e1])]
        simp only [List.map_cons, List.map_nil] at hv
        cases hr : env.ev r with
        | str s =>
          rw [hr] at hv
          simp only [pI, Option.some.injEq] at hv
          subst hv
          refine val_of ?_ (by simp [AV.inD])
          have hsz : (⟨s.toArray⟩ : ByteArray).size = s.length := by simp only [ByteArray.size, List.size_toArray]
          simp [Builtin.len_, run_underlying hu, Result.andThen, real, goInt, hsz, -ByteArray.size_data]
        | _ => rw [hr] at hv; simp [pI] at hv
      · rename_i k e hu
        obtain ⟨hq, r, rfl, e1, d1⟩ := one_one he hc
        simp only [IOp.p.injEq] at hq
        subst hq
        rw [args_map hargs (ys := [real ρ (env.ev r)]) (by simp [e1])]
        simp only [List.map_cons, List.map_nil, pI, Option.some.injEq] at hv
        subst hv
        refine val_of ?_ (by simp [AV.inD])
        simp [Builtin.len_, run_underlying hu, Result.andThen, real, goInt]
      · obtain ⟨hq, _⟩ := one_one he hc; simp at hq
      · rename_i arr hu
        split at hc
        · rename_i k e hu2
          obtain ⟨hq, r, rfl, e1, d1⟩ := one_one he hc
          simp only [IOp.p.injEq] at hq
          subst hq
          rw [args_map hargs (ys := [real ρ (env.ev r)]) (by simp [e1])]
          simp only [List.map_cons, List.map_nil, pI, Option.some.injEq] at hv
          subst hv
          refine val_of ?_ (by simp [AV.inD])
          simp [Builtin.len_, run_underlying hu, run_underlying hu2, Result.andThen, real, goInt]
        · simp at hc
      · simp at hc
    · rename_i x xs ts hargs
      obtain ⟨rs', h1, h2⟩ := one_some hc
      simp only [Prod.mk.injEq, IOp.p.injEq] at h2
      obtain ⟨rfl, rfl⟩ := h2
      obtain ⟨r, rs2, rfl, hr1, hr2⟩ := rands_cons h1
      have e1 := rand_real he hr1
      have e2 := rands_real he hr2
      rw [args_map hargs (ys := real ρ (env.ev r) :: reals ρ (rs2.map env.ev)) (by simp [e1.1, ← e2.1])]
      simp only [List.map_cons, pI] at hv
      have := fold2_max (P := P) (w := w) (D := D) (ρ := ρ) _ _ _ hv
      refine val_of ?_ (this.2 e1.2)
      simpa [Builtin.max_] using this.1
    · rename_i x xs ts hargs
      obtain ⟨rs', h1, h2⟩ := one_some hc
      simp only [Prod.mk.injEq, IOp.p.injEq] at h2
      obtain ⟨rfl, rfl⟩ := h2
      obtain ⟨r, rs2, rfl, hr1, hr2⟩ := rands_cons h1
      have e1 := rand_real he hr1
      have e2 := rands_real he hr2
      rw [args_map hargs (ys := real ρ (env.ev r) :: reals ρ (rs2.map env.ev)) (by simp [e1.1, ← e2.1])]
      simp only [List.map_cons, pI] at hv
      have := fold2_min (P := P) (w := w) (D := D) (ρ := ρ) _ _ _ hv
      refine val_of ?_ (this.2 e1.2)
      simpa [Builtin.min_] using this.1
    · split at hc
      · split at hc
        · simp at hc
        · split at hc
          · split at hc
            · simp at hc
            · obtain ⟨hq, _⟩ := one_two he hc; simp at hq
          · simp at hc
      · simp at hc
    · split at hc
      · simp only [Option.bind_eq_some_iff] at hc
        obtain ⟨k, hk, hc⟩ := hc
        obtain ⟨hq, _⟩ := one_two he hc; simp at hq
      · simp at hc
    · split at hc
      · simp only [Option.bind_eq_some_iff] at hc
        obtain ⟨k, hk, hc⟩ := hc
        obtain ⟨hq, _⟩ := one_one he hc; simp at hq
      · obtain ⟨hq, _⟩ := one_one he hc; simp at hq
      · simp at hc
    · simp at hc

theorem pI_sound {o : Oper} {p : POp} {rs : List Rand} {v : AV} (he : EInv ρ D n env a) (hc : compOp P o.op = some (.p p, rs)) (hv : pI p (rs.map env.ev) = some v) :
    Val P ρ D w (execOp a.eval o) v := by
  have hcc := hc
  cases ho : o.op <;> rw [ho] at hc
  case move x =>
    have := move_sound he hc hv
    unfold execOp; rw [ho]
    exact ⟨by simp only [Sem.run_pure]; rw [this.1], this.2⟩
  case assign x =>
    have := move_sound he hc hv
    unfold execOp; rw [ho]
    exact ⟨by simp only [Sem.run_pure]; rw [this.1], this.2⟩
  case pick c x y =>
    unfold execOp; rw [ho]
    exact pick_sound he hc hv
  case build t ps =>
    unfold execOp; rw [ho]
    exact build_sound he hc hv
  case nilCheck x => exact nilcheck_sound he o ho hc hv
  case binOp op t x y yt => exact binop_sound he ho hcc hv
  case unOp u t x =>
    unfold execOp; rw [ho]
    exact unop_sound he hc hv
  case convert s d x =>
    unfold execOp; rw [ho]
    exact conv_sound he hc hv
  case makeInterface t x =>
    unfold execOp; rw [ho]
    exact mkiface_sound he hc hv
  case makeFunc fn f c =>
    unfold execOp; rw [ho]
    exact mkfunc_sound he hc hv
  case slice t x lo hi mx =>
    unfold execOp; rw [ho]
    exact slice_sound he hc hv
  case fieldAddr t x i =>
    unfold execOp; rw [ho]
    exact fieldAddr_sound he hc hv
  case field t x i =>
    unfold execOp; rw [ho]
    exact field_sound he hc hv
  case indexAddr t x y =>
    unfold execOp; rw [ho]
    exact indexAddr_sound he hc hv
  case index t x y =>
    unfold execOp; rw [ho]
    exact index_sound he hc hv
  case typeAssert x xt t ok =>
    unfold execOp; rw [ho]
    exact tassert_sound he hc hv
  case extract x i =>
    unfold execOp; rw [ho]
    exact extract_sound he hc hv
  case call c => exact builtin_sound he ho hc hv
  case makeMap t r =>
    exfalso
    cases r with
    | none =>
      simp only [compOp] at hc
      obtain ⟨_, _, h2⟩ := one_some hc
      simp at h2
    | some r => simp [compOp] at hc
  all_goals (exfalso; simp only [compOp] at hc)
  all_goals repeat' (first
    | (simp only [Option.bind_eq_some_iff] at hc; obtain ⟨_, _, hc⟩ := hc)
    | (simp only [Option.map_eq_some_iff] at hc; obtain ⟨_, _, hc⟩ := hc; simp at hc; done)
    | (obtain ⟨_, _, h2⟩ := one_some hc; simp at h2; done)
    | (simp at hc; done)
    | (split at hc))
end
end Ads
end Go.Proofs.Ytflmbknimebmnaa
