/-
  What big steps mean in the model: calls of values and of methods; ranges over functions.
-/
import Derived.Test.YtlndlbngfgaoeaaAdsCall
import Derived.RangeFuncCalls
set_option linter.unusedSimpArgs false
set_option linter.unusedVariables false
namespace Go.Proofs.Ytlndlbngfgaoeaa
namespace Ads
section
variable {P : Program} {H0 W0 : Nat} {ρ ρ' : Rho} {D D' : Dom} {h h' h1 h2 : Heap} {w w' : World} {N n : Nat} {env e e' : Env} {a : Act} {ro : Option Nat} {rd : Bool}

theorem callsIn_FW {f : Nat} {args : Array Value} {R : Ending → World → Prop} (hc : CallsIn Fence.wide n P f args w R) : CallsIn (FW ro) n P f args w R := by
 cases ro with
 | none => exact hc
 | some l => exact CallsIn.inRound l hc

theorem upon_call {o : Oper} {f : Nat} {args : List AV} {v : AV} {next : Act → World → Prop} {Q : Exit → Act → World → Prop} (hc : CallSem P H0 f args h v h1) (hi : Inv P H0 ρ D h w) (hd : allD D args)
  (hk : ∀ ρ' w', Inv P H0 ρ' (grow D h.next h1.next) h1 w' → Ext ρ D h w ρ' h1 w' → v.inD (grow D h.next h1.next) → next (a.put o.dst (real ρ' v)) w') :
  o.uponIn (FW ro) n P a next Q (.ok (.enter f (reals ρ args).toArray) w) := by
 refine ⟨fun hh => by simp [FW, Fence.wide] at hh, ?_⟩
 refine CallsIn.mono (callsIn_FW (hc ρ D w (n - 1) hi hd)) ?_
 rintro e w' ⟨ρ', rfl, g1, g2, g3⟩
 exact hk ρ' w' g1 g2 g3

theorem callv_func {f : Nat} {first capt args : List AV} {v : AV} (hc : CallSem P H0 f (first ++ (args ++ capt)) h v h1) (hent : ∀ (args : Array Value) (w : World), (callFunc f args).run P w = .ok (.enter f args) w) :
  CallvSem P H0 (.func (.func f) first capt) args h v h1 := by
 intro ρ D w hi hf hd o a ro n next Q hk
 simp only [AV.inD] at hf
 have hrun : ((do let d ← Deferred.ofValue (real ρ (.func (.func f) first capt)) (reals ρ args).toArray; invoke d.target d.args : Sem Next).run P w) = .ok (.enter f (reals ρ (first ++ (args ++ capt))).toArray) w := by
  simp only [real, Deferred.ofValue, Sem.run_bind, Sem.run_pure, Result.andThen, invoke, hent]
  congr 2
  simp [reals_append]
 rw [hrun]
 have hda : allD D (first ++ (args ++ capt)) := by
  rw [allD_iff]
  intro x hx
  rcases List.mem_append.1 hx with hx | hx
  ·exact (allD_iff D _).1 hf.2.1 x hx
  ·rcases List.mem_append.1 hx with hx | hx
   ·exact (allD_iff D _).1 hd x hx
   ·exact (allD_iff D _).1 hf.2.2 x hx
 exact upon_call hc hi hda hk

theorem upon_callP {o : Oper} {f : Nat} {args : List AV} {v : AV} {next : Act → World → Prop} {Q : Exit → Act → World → Prop} (hc : CallSemP P H0 f args h v h1) (hi : Inv P H0 ρ D h w) (hd : allD D args)
  (hk : ∀ ρ' w', Inv P H0 ρ' (grow D h.next h1.next) h1 w' → Ext ρ D h w ρ' h1 w' → v.inD (grow D h.next h1.next) → Q (.panic [{ v := real ρ' v, recovered := false }]) a w') :
  o.uponIn (FW ro) n P a next Q (.ok (.enter f (reals ρ args).toArray) w) := by
 refine ⟨fun hh => by simp [FW, Fence.wide] at hh, ?_⟩
 refine CallsIn.mono (callsIn_FW (hc ρ D w (n - 1) hi hd)) ?_
 rintro e w' ⟨ρ', rfl, g1, g2, g3⟩
 exact hk ρ' w' g1 g2 g3

theorem callv_funcP {f : Nat} {first capt args : List AV} {v : AV} (hc : CallSemP P H0 f (first ++ (args ++ capt)) h v h1) (hent : ∀ (args : Array Value) (w : World), (callFunc f args).run P w = .ok (.enter f args) w) :
  CallvSemP P H0 (.func (.func f) first capt) args h v h1 := by
 intro ρ D w hi hf hd o a ro n next Q hk
 simp only [AV.inD] at hf
 have hrun : ((do let d ← Deferred.ofValue (real ρ (.func (.func f) first capt)) (reals ρ args).toArray; invoke d.target d.args : Sem Next).run P w) = .ok (.enter f (reals ρ (first ++ (args ++ capt))).toArray) w := by
  simp only [real, Deferred.ofValue, Sem.run_bind, Sem.run_pure, Result.andThen, invoke, hent]
  congr 2
  simp [reals_append]
 rw [hrun]
 have hda : allD D (first ++ (args ++ capt)) := by
  rw [allD_iff]
  intro x hx
  rcases List.mem_append.1 hx with hx | hx
  ·exact (allD_iff D _).1 hf.2.1 x hx
  ·rcases List.mem_append.1 hx with hx | hx
   ·exact (allD_iff D _).1 hd x hx
   ·exact (allD_iff D _).1 hf.2.2 x hx
 exact upon_callP hc hi hda hk

theorem comp_call {o : Op} {rs : List Rand} (h : compOp P o = some (.call, rs)) : ∃ c f, o = .call c ∧ c.callee = .value f ∧ randsOf (f :: c.args.toList) = some rs := by
 cases o <;> simp only [compOp] at h
 case call c =>
  split at h
  ·rename_i f hcb
   simp only [Option.map_eq_some_iff, Prod.mk.injEq] at h
   obtain ⟨rs', h1, _, rfl⟩ := h
   exact ⟨c, f, rfl, hcb, h1⟩
  ·simp only [Option.map_eq_some_iff] at h; obtain ⟨_, _, h⟩ := h; simp at h
  ·exfalso
   repeat' (first
    | (simp only [Option.bind_eq_some_iff] at h; obtain ⟨_, _, h⟩ := h)
    | (obtain ⟨_, _, h2⟩ := one_some h; simp at h2; done)
    | (simp at h; done)
    | (split at h))
 case unOp u t x =>
  exfalso
  cases u <;> simp only [compOp] at h <;> first
   | (obtain ⟨_, _, h2⟩ := one_some h; simp at h2; done)
   | (simp at h; done)
 case next it s =>
  exfalso
  cases s with
  | true => simp [compOp] at h
  | false => simp only [compOp] at h; obtain ⟨hq, _⟩ := one_of h; simp at hq
 case makeMap t r =>
  exfalso
  cases r with
  | none => simp only [compOp] at h; obtain ⟨hq, _⟩ := one_of h; simp at hq
  | some r => simp [compOp] at h
 all_goals exfalso
 all_goals repeat' (first
  | (simp only [Option.bind_eq_some_iff] at h; obtain ⟨_, _, h⟩ := h)
  | (simp only [Option.map_eq_some_iff] at h; obtain ⟨_, _, h⟩ := h; simp at h; done)
  | (obtain ⟨_, _, h2⟩ := one_some h; simp at h2; done)
  | (simp at h; done)
  | (split at h))

theorem comp_invoke {o : Op} {rs : List Rand} {name : String} (h : compOp P o = some (.invoke name, rs)) : ∃ c r, o = .call c ∧ c.callee = .invoke r name ∧ randsOf (r :: c.args.toList) = some rs := by
 cases o <;> simp only [compOp] at h
 case call c =>
  split at h
  ·simp only [Option.map_eq_some_iff] at h; obtain ⟨_, _, h⟩ := h; simp at h
  ·rename_i r nm hcb
   simp only [Option.map_eq_some_iff, Prod.mk.injEq, IOp.invoke.injEq] at h
   obtain ⟨rs', h1, rfl, rfl⟩ := h
   exact ⟨c, r, rfl, hcb, h1⟩
  ·exfalso
   repeat' (first
    | (simp only [Option.bind_eq_some_iff] at h; obtain ⟨_, _, h⟩ := h)
    | (obtain ⟨_, _, h2⟩ := one_some h; simp at h2; done)
    | (simp at h; done)
    | (split at h))
 case unOp u t x =>
  exfalso
  cases u <;> simp only [compOp] at h <;> first
   | (obtain ⟨_, _, h2⟩ := one_some h; simp at h2; done)
   | (simp at h; done)
 case next it s =>
  exfalso
  cases s with
  | true => simp [compOp] at h
  | false => simp only [compOp] at h; obtain ⟨hq, _⟩ := one_of h; simp at hq
 case makeMap t r =>
  exfalso
  cases r with
  | none => simp only [compOp] at h; obtain ⟨hq, _⟩ := one_of h; simp at hq
  | some r => simp [compOp] at h
 all_goals exfalso
 all_goals repeat' (first
  | (simp only [Option.bind_eq_some_iff] at h; obtain ⟨_, _, h⟩ := h)
  | (simp only [Option.map_eq_some_iff] at h; obtain ⟨_, _, h⟩ := h; simp at h; done)
  | (obtain ⟨_, _, h2⟩ := one_some h; simp at h2; done)
  | (simp at h; done)
  | (split at h))

theorem opCall_ok {fv : AV} {args : List AV} {v : AV} (hc : CallvSem P H0 fv args h v h1) : OpOk P H0 .call (fv :: args) h v h1 := by
 intro o rs hco ρ D w a N env ro n hi he hv next Q hk
 obtain ⟨c, f, ho, hcb, hrs⟩ := comp_call hco
 obtain ⟨r, rs', rfl, h1, h2⟩ := rands_cons hrs
 simp only [List.map_cons, List.cons.injEq] at hv
 have e1 := rand_real he h1
 have e2 := rands_real he h2
 rw [hv.1] at e1
 rw [hv.2] at e2
 refine wpIn_of hco ?_
 have hex : execOp a.eval o = (do let d ← Deferred.ofValue (real ρ fv) (reals ρ args).toArray; invoke d.target d.args : Sem Next) := by
  unfold execOp
  rw [ho]
  simp only [resolve, hcb]
  rw [e1.1, args_map rfl e2.1]
 rw [hex]
 exact hc ρ D w hi e1.2 e2.2 o a ro n next Q hk

theorem opCall_okP {fv : AV} {args : List AV} {v : AV} (hc : CallvSemP P H0 fv args h v h1) : OpSemP P H0 .call (fv :: args) h v h1 := by
 intro o rs hco ρ D w a N env ro n hi he hv next Q hk
 obtain ⟨c, f, ho, hcb, hrs⟩ := comp_call hco
 obtain ⟨r, rs', rfl, h1, h2⟩ := rands_cons hrs
 simp only [List.map_cons, List.cons.injEq] at hv
 have e1 := rand_real he h1
 have e2 := rands_real he h2
 rw [hv.1] at e1
 rw [hv.2] at e2
 refine wpIn_of hco ?_
 have hex : execOp a.eval o = (do let d ← Deferred.ofValue (real ρ fv) (reals ρ args).toArray; invoke d.target d.args : Sem Next) := by
  unfold execOp
  rw [ho]
  simp only [resolve, hcb]
  rw [e1.1, args_map rfl e2.1]
 rw [hex]
 exact hc ρ D w hi e1.2 e2.2 o a ro n next Q hk

theorem comp_panic {o : Op} {rs : List Rand} (h : compOp P o = some (.panic, rs)) : ∃ x r, o = .panic x ∧ randOf x = some r ∧ rs = [r] := by
 cases o <;> simp only [compOp] at h
 case panic x =>
  obtain ⟨_, h2⟩ := one_of h
  obtain ⟨r, rs', rfl, h3, h4⟩ := rands_cons h2
  simp [randsOf] at h4
  subst h4
  exact ⟨x, r, rfl, h3, rfl⟩
 case unOp u t x =>
  exfalso
  cases u <;> simp only [compOp] at h <;> first
   | (obtain ⟨_, _, h2⟩ := one_some h; simp at h2; done)
   | (simp at h; done)
 case next it s =>
  exfalso
  cases s with
  | true => simp [compOp] at h
  | false => simp only [compOp] at h; obtain ⟨hq, _⟩ := one_of h; simp at hq
 case makeMap t r =>
  exfalso
  cases r with
  | none => simp only [compOp] at h; obtain ⟨hq, _⟩ := one_of h; simp at hq
  | some r => simp [compOp] at h
 all_goals exfalso
 all_goals repeat' (first
  | (simp only [Option.bind_eq_some_iff] at h; obtain ⟨_, _, h⟩ := h)
  | (simp only [Option.map_eq_some_iff] at h; obtain ⟨_, _, h⟩ := h; simp at h; done)
  | (obtain ⟨_, _, h2⟩ := one_some h; simp at h2; done)
  | (simp at h; done)
  | (split at h))

theorem opPanic_ok {t : Nat} {x : AV} : OpSemP P H0 .panic [.iface t x] h (.iface t x) h := by
 intro o rs hco ρ D w a N env ro n hi he hv next Q hk
 obtain ⟨y, r, ho, hr, rfl⟩ := comp_panic hco
 simp only [List.map_cons, List.map_nil, List.cons.injEq, and_true] at hv
 have e1 := rand_real he hr
 rw [hv] at e1
 refine wpIn_of hco ?_
 have hex : (execOp a.eval o).run P w = .halt (.panic (real ρ (.iface t x))) w := by
  unfold execOp
  rw [ho]
  simp only [e1.1, real]
  simp [Instr.panic, Sem.run_bind, Result.andThen]
 rw [hex]
 exact hk ρ w (by rw [grow_self]; exact hi) (Ext.refl _ _ _ _) (by rw [grow_self]; exact e1.2)

theorem opInvoke_ok {fs : Nat → Option AFunc} {ms : Nat → String → Option Nat} (sys : SysOk P fs ms) {name : String} {t f : Nat} {x : AV} {args : List AV} {v : AV} (hm : ms t name = some f)
  (hc : CallSem P H0 f (x :: args) h v h1) (hent : ∀ (args : Array Value) (w : World), (callFunc f args).run P w = .ok (.enter f args) w) : OpOk P H0 (.invoke name) (.iface t x :: args) h v h1 := by
 intro o rs hco ρ D w a N env ro n hi he hv next Q hk
 obtain ⟨c, r, ho, hcb, hrs⟩ := comp_invoke hco
 obtain ⟨q, rs', rfl, h1, h2⟩ := rands_cons hrs
 simp only [List.map_cons, List.cons.injEq] at hv
 have e1 := rand_real he h1
 have e2 := rands_real he h2
 rw [hv.1] at e1
 rw [hv.2] at e2
 refine wpIn_of hco ?_
 have hrun : (execOp a.eval o).run P w = .ok (.enter f (reals ρ (x :: args)).toArray) w := by
  unfold execOp
  rw [ho]
  simp only [resolve, hcb]
  rw [e1.1, args_map rfl e2.1]
  simp only [Sem.run_bind, Sem.run_pure, Result.andThen, invoke, real]
  have hz : (#[Value.iface t (real ρ x)] ++ (reals ρ args).toArray : Array Value)[0]? = some (Value.iface t (real ρ x)) := by simp
  simp only [hz, callMethod]
  have hms := sys.msOk t name f hm (real ρ x) w
  have hx : (#[Value.iface t (real ρ x)] ++ (reals ρ args).toArray : Array Value).extract 1 (#[Value.iface t (real ρ x)] ++ (reals ρ args).toArray : Array Value).size = (reals ρ args).toArray := by
   apply Array.ext'
   simp
  rw [hx, Sem.run_bind, run_program]
  simp only [Result.andThen]
  rw [Sem.run_bind, hms]
  simp only [Result.andThen, hent]
  congr 2
  simp [reals]
 rw [hrun]
 simp only [AV.inD] at e1
 exact upon_call hc hi (by simp only [allD]; exact ⟨e1.2, e2.2⟩) hk

theorem opInvoke_okP {fs : Nat → Option AFunc} {ms : Nat → String → Option Nat} (sys : SysOk P fs ms) {name : String} {t f : Nat} {x : AV} {args : List AV} {v : AV} (hm : ms t name = some f)
  (hc : CallSemP P H0 f (x :: args) h v h1) (hent : ∀ (args : Array Value) (w : World), (callFunc f args).run P w = .ok (.enter f args) w) : OpSemP P H0 (.invoke name) (.iface t x :: args) h v h1 := by
 intro o rs hco ρ D w a N env ro n hi he hv next Q hk
 obtain ⟨c, r, ho, hcb, hrs⟩ := comp_invoke hco
 obtain ⟨q, rs', rfl, h1, h2⟩ := rands_cons hrs
 simp only [List.map_cons, List.cons.injEq] at hv
 have e1 := rand_real he h1
 have e2 := rands_real he h2
 rw [hv.1] at e1
 rw [hv.2] at e2
 refine wpIn_of hco ?_
 have hrun : (execOp a.eval o).run P w = .ok (.enter f (reals ρ (x :: args)).toArray) w := by
  unfold execOp
  rw [ho]
  simp only [resolve, hcb]
  rw [e1.1, args_map rfl e2.1]
  simp only [Sem.run_bind, Sem.run_pure, Result.andThen, invoke, real]
  have hz : (#[Value.iface t (real ρ x)] ++ (reals ρ args).toArray : Array Value)[0]? = some (Value.iface t (real ρ x)) := by simp
  simp only [hz, callMethod]
  have hms := sys.msOk t name f hm (real ρ x) w
  have hx : (#[Value.iface t (real ρ x)] ++ (reals ρ args).toArray : Array Value).extract 1 (#[Value.iface t (real ρ x)] ++ (reals ρ args).toArray : Array Value).size = (reals ρ args).toArray := by
   apply Array.ext'
   simp
  rw [hx, Sem.run_bind, run_program]
  simp only [Result.andThen]
  rw [Sem.run_bind, hms]
  simp only [Result.andThen, hent]
  congr 2
  simp [reals]
 rw [hrun]
 simp only [AV.inD] at e1
 exact upon_callP hc hi (by simp only [allD]; exact ⟨e1.2, e2.2⟩) hk

theorem inv_push (hi : Inv P H0 ρ D h w) (o : Obj) : Inv P H0 ρ D h (w.alloc o) ∧ Ext ρ D h w ρ h (w.alloc o) := by
 have hold : ∀ r, r < w.heap.size → (w.alloc o).heap[r]? = w.heap[r]? := by
  intro r hr
  show (w.heap.push o)[r]? = _
  rw [Array.getElem?_push, if_neg (by omega)]
 constructor
 ·refine ⟨hi.lt, hi.top, ?_, fun b x hd hx => ?_, hi.apart⟩
  ·have := hi.low
   show H0 ≤ (w.heap.push o).size
   simp; omega
  ·have hb := hi.blk b x hd hx
   exact blkReal_keep hb (fun _ => id) (fun _ _ => rfl) (hold _ (blkReal_lt hb))
 ·refine ⟨Nat.le_refl _, fun _ _ => rfl, ?_, fun r hr _ => hold r hr, fun _ _ _ => rfl, fun _ _ hb => ⟨hb, id⟩, fun _ g1 g2 => by omega, rfl, rfl, rfl⟩
  show w.heap.size ≤ (w.heap.push o).size
  simp

theorem run_getLoop {l : Nat} {r : Loop} (hl : w.heap[l]? = some (.loop r)) : (Instr.getLoop l).run P w = .ok r w := by
 have hgo : (getObj l).run P w = .ok (.loop r) w := by
  unfold getObj
  simp only [Sem.run, hl]
 simp [Instr.getLoop, Sem.run_bind, hgo, Result.andThen]

theorem run_setObj {l : Nat} {o o' : Obj} (hl : w.heap[l]? = some o) (hnc : ∀ c t f, o ≠ .cells c t f) : (setObj l o').run P w = .ok () (setRow w l o') := by
 unfold setObj
 cases o <;> first | (exact absurd rfl (hnc _ _ _)) | (simp only [Sem.run, hl]; rfl)

theorem loop_set (hi : Inv P H0 ρ D h w) {L : Nat} {st st' : Nat} {pend pend' : Option AX} {ps : List Nat} {x y : AC} {r r' : Loop} (hd : D L) (hg : h.get L = some (.loop st pend e ps x y))
  (hr : w.heap[(ρ L).blk]? = some (.loop r)) (hr' : loopReal P ρ D st' pend' e ps x y r') :
  Inv P H0 ρ D (h.set L (.loop st' pend' e ps x y)) (setRow w (ρ L).blk (.loop r')) ∧ Ext ρ D h w ρ (h.set L (.loop st' pend' e ps x y)) (setRow w (ρ L).blk (.loop r')) := by
 have hlt := (Array.getElem?_eq_some_iff.1 hr).1
 have hb := hi.blk L _ hd hg
 refine step_set hi hd (by simp [Heap.wr, hg]) rfl (setRow_size _ _ _) (fun q hq => by rw [setRow_get, if_neg hq]) rfl rfl rfl ⟨hb.1, r', ?_, hr'⟩
 rw [setRow_get, if_pos rfl, if_pos hlt]

theorem putAll_real : ∀ {ps : List Nat} {args : List AV} {e : Env} {tmps : Array Value} {N : Nat}, ps.length = args.length → allBelow N ps = true → tmps.size = N → (∀ i, tmps.getD i Go.undef = real ρ (e.get i)) → (∀ i, (e.get i).inD D) → allD D args →
  EInv ρ D N (putAll ps args e) { tmps := (ps.zip (reals ρ args)).foldl (fun tmps p => tmps.setIfInBounds p.1 p.2) tmps, defers := [] }
 | [], [], e, tmps, N, _, _, hs, hg, hd, _ => ⟨hs, hg, hd⟩
 | [], _ :: _, _, _, _, hl, _, _, _, _, _ => by simp at hl
 | _ :: _, [], _, _, _, hl, _, _, _, _, _ => by simp at hl
 | p :: ps, v :: args, e, tmps, N, hl, hb, hs, hg, hd, ha => by
  simp only [allBelow, Bool.and_eq_true] at hb
  simp only [allD] at ha
  have hput := EInv.put (d := some p) (v := v) (a := ⟨tmps, []⟩) (e := e) (N := N) ⟨hs, hg, hd⟩ hb.1 ha.1
  simp only [putAll, reals, List.zip_cons_cons, List.foldl_cons]
  exact putAll_real (by simpa using hl) hb.2 hput.size hput.get hput.dom ha.2

theorem sem_yield {L : Nat} {args : List AV} {pend pend2 pend4 : Option AX} {ps : List Nat} {x y : AC} {e2 e4 : Env} {h4 : Heap} {ax : AX} {st4 : Nat}
  (hg : h.get L = some (.loop 0 pend e ps x y)) (hlen : args.length = ps.length) (hs1 : CodeSem P H0 true x (putAll ps args e) h .normal e2 h2) (hg2 : h2.get L = some (.loop 0 pend2 e ps x y))
  (hs2 : CodeSem P H0 true y e2 (h2.set L (.loop 1 pend2 e ps x y)) ax e4 h4) (hnp : ∀ v, ax ≠ .panic v) (hg4 : h4.get L = some (.loop st4 pend4 e ps x y)) :
  CallvSem P H0 (.yield L) args h (.bool ax.normal?) (h4.set L (.loop (bif ax.normal? then 0 else 2) (pendOf ax) e ps x y)) := by
 intro ρ D w hi hf hd o a ro n next Q hk
 simp only [AV.inD] at hf
 obtain ⟨_, r, hr, hst, hpd, htm, hed, hps, hca, hcb, hoka, hokb, hbel⟩ := hi.blk L _ hf hg
 have hsz : args.length = r.params.size := by rw [hlen, ← hps]; simp
 have hrun : ((do let d ← Deferred.ofValue (real ρ (.yield L)) (reals ρ args).toArray; invoke d.target d.args : Sem Next).run P w) =
   .ok (.round (ρ L).blk r.fn ((ps.zip (reals ρ args)).foldl (fun tmps p => tmps.setIfInBounds p.1 p.2) r.tmps) r.assign r.body) w := by
  simp only [real, Deferred.ofValue, Sem.run_bind, Sem.run_pure, Result.andThen, invoke, Instr.yield, run_getLoop hr]
  rw [if_neg (by simp [reals_length, hsz])]
  simp only [Sem.run_pure]
  congr 2
  rw [← hps]
  rw [← Array.foldl_toList]
  simp
 rw [hrun]
 refine ⟨fun hh => by simp [FW, Fence.wide] at hh, ?_⟩
 refine roundIn_of_wpIn trivial ?_
 have he0 := putAll_real (ρ := ρ) (D := D) (ps := ps) (args := args) (e := e) (tmps := r.tmps) hlen.symm hbel rfl htm hed hd
 have hm0 : MInv [] w.heap.size ρ D h w ([] : List Deferred) := ⟨[], rfl, List.nodup_nil, fun r hr => by simp at hr⟩
 refine Code.wpIn_mono ?_ (hs1 r.assign hca r.tmps.size hoka (some (ρ L).blk) rfl ρ D w _ w.heap.size (n - 1) [] hi he0 hm0 (Nat.le_refl _))
 rintro ex a1 w1 ⟨ρ1, hex, i1, x1, ei1, m1, _⟩
 have hex : ex = .normal := hex
 subst hex
 have hL1 : grow D h.next h2.next L := .inl hf
 have hag1 := x1.agree L hf
 obtain ⟨_, r1, hr1, hst1, hpd1, htm1, hed1, hps1, hca1, hcb1, hoka1, hokb1, hbel1⟩ := i1.blk L _ hL1 hg2
 have hset1 := loop_set i1 hL1 hg2 hr1 (st' := 1) (pend' := pend2) (r' := { r1 with state := .busy }) ⟨rfl, hpd1, htm1, hed1, hps1, hca1, hcb1, hoka1, hokb1, hbel1⟩
 refine ⟨setRow w1 (ρ1 L).blk (.loop { r1 with state := .busy }), ?_, ?_⟩
 ·have hst1' : r1.state = .ready := hst1
  rw [← hag1]
  simp only [Instr.beginRound, Sem.run_bind, run_getLoop hr1, Result.andThen, run_setObj hr1 (fun _ _ _ => by simp), hst1', Sem.run_pure]
 ·have hm1 := m1.ext i1.lt hset1.2
  rw [show (h2.set L (.loop 1 pend2 e ps x y)).next = h2.next from rfl, grow_self] at hm1
  have hi1 := hset1.1
  refine Code.wpIn_mono ?_ (hs2 r.body hcb r.tmps.size hokb (some (ρ L).blk) rfl ρ1 _ _ a1 w.heap.size (n - 1) [] hi1 ei1 hm1 (by rw [setRow_size]; exact x1.size))
  rintro ex a2 w2 ⟨ρ2, hex, i2, x2, ei2, m2, _⟩
  have hL2 : grow (grow D h.next h2.next) (h2.set L (.loop 1 pend2 e ps x y)).next h4.next L := .inl hL1
  have hag2 := x2.agree L hL1
  obtain ⟨_, r2, hr2, hst2, hpd2, htm2, hed2, hps2, hca2, hcb2, hoka2, hokb2, hbel2⟩ := i2.blk L _ hL2 hg4
  have hblk : (ρ2 L).blk = (ρ L).blk := by rw [hag2, hag1]
  have fin : ∀ (jump : Option Code), (match pendOf ax with
    | none => jump = none
    | some (.exit id) => jump = some (.exit id)
    | some .ret => jump = some .ret
    | _ => False) → jump.isNone = ax.normal? → ∃ v w', (Instr.endRound (ρ L).blk jump).run P w2 = .ok v w' ∧ next (a.put o.dst v) w' := by
   intro jump hj hjn
   have hset2 := loop_set i2 hL2 hg4 hr2 (st' := bif ax.normal? then 0 else 2) (pend' := pendOf ax) (r' := { r2 with state := if jump.isNone then .ready else .done, pending := jump })
    ⟨by rw [hjn]; cases ax.normal? <;> rfl, hj, htm2, hed2, hps2, hca2, hcb2, hoka2, hokb2, hbel2⟩
   refine ⟨_, setRow w2 (ρ2 L).blk (.loop { r2 with state := if jump.isNone then .ready else .done, pending := jump }), ?_, hk ρ2 _ ?_ ?_ (by simp [AV.inD])⟩
   ·rw [← hblk]
    simp only [Instr.endRound, Sem.run_bind, run_getLoop hr2, Result.andThen, run_setObj hr2 (fun _ _ _ => by simp), Sem.run_pure, hjn]
    rfl
   ·have := hset2.1
    have g1 := x1.next
    have g2 := x2.next
    rw [show (h2.set L (.loop 1 pend2 e ps x y)).next = h2.next from rfl] at g2 this
    rw [grow_grow D g1 g2] at this
    exact this
   ·have xb : Ext ρ1 (grow D h.next h2.next) h2 w1 ρ2 h4 w2 := Ext.trans i1.lt hset1.2 (by
     rw [show (h2.set L (.loop 1 pend2 e ps x y)).next = h2.next from rfl, grow_self]; exact x2)
    have xc := Ext.trans i1.lt xb hset2.2
    exact Ext.trans hi.lt x1 xc
  cases ax with
  | normal =>
   have hex : ex = .normal := hex
   subst hex
   exact fin none rfl rfl
  | ret =>
   have hex : ex = .ret := hex
   subst hex
   exact fin (some .ret) rfl rfl
  | exit id =>
   have hex : ex = .exit id := hex
   subst hex
   exact fin (some (.exit id)) rfl rfl
  | panic v => exact absurd rfl (hnp v)
end
end Ads
end Go.Proofs.Ytlndlbngfgaoeaa
