/-
  What big steps mean in the model: a function that defers a closure which recovers.
-/
import Derived.Test.YtlndlbngfgaoeaaAdsCall
import Derived.RecoverIn
set_option linter.unusedSimpArgs false
set_option linter.unusedVariables false
namespace Go.Proofs.Ytlndlbngfgaoeaa
namespace Ads
section
variable {P : Program} {H0 W0 : Nat} {ρ ρ' : Rho} {D D' : Dom} {h h' h1 : Heap} {w w' : World} {N n : Nat} {env e e' : Env} {a : Act} {ro : Option Nat} {rd : Bool}

theorem comp_special {ops : Array Oper} {o : Oper} {i : Ins} {as : List Rand} (hc : compIns P ops o = i) (hop : i.op = .bad) (has : i.args = as) (hl : as.length = 4) : badArgs o = as ∧ i.dst = o.dst := by
 unfold compIns at hc
 simp only at hc
 split at hc
 ·rename_i g op as' hg hcc
  subst hc
  simp only at hop has
  subst hop has
  have := comp_bad hcc
  omega
 ·subst hc
  exact ⟨has, rfl⟩

theorem dfer_inv {ops : Array Oper} {o : Oper} {dst : Option Nat} {r : Rand} (hc : compIns P ops o = dferI dst r) : o.dst = dst ∧ o.guard = none ∧ ∃ c f, o.op = .defer c ∧ c.callee = .value f ∧ c.args.toList = [] ∧ randOf f = some r := by
 obtain ⟨h1, h2⟩ := comp_special (as := [.c (.bool true), r, r, r]) hc rfl rfl rfl
 refine ⟨h2.symm, ?_⟩
 unfold badArgs at h1
 split at h1
 ·rename_i c hg ho
  split at h1
  ·rename_i f hcb hca
   split at h1
   ·rename_i r' hr
    simp only [List.cons.injEq, and_true, true_and] at h1
    exact ⟨hg, c, f, ho, hcb, hca, by rw [hr, h1.1]⟩
   ·simp at h1
  ·simp at h1
 ·split at h1
  ·simp at h1
  ·simp at h1
 ·simp at h1

theorem rcv_inv {ops : Array Oper} {o : Oper} {t : Nat} (hc : compIns P ops o = rcvI t) : o.dst = some t ∧ o.guard = none ∧ ∃ c, o.op = .call c ∧ c.callee = .builtin .recover := by
 obtain ⟨h1, h2⟩ := comp_special (as := [.c (.bool false), .c (.bool false), .c (.bool false), .c (.bool false)]) hc rfl rfl rfl
 refine ⟨h2.symm, ?_⟩
 unfold badArgs at h1
 split at h1
 ·split at h1
  ·split at h1
   ·simp at h1
   ·simp at h1
  ·simp at h1
 ·rename_i c hg ho
  split at h1
  ·rename_i hcb
   exact ⟨hg, c, ho, hcb⟩
  ·simp at h1
 ·simp at h1

theorem wpSIn_scope {F : Fence} {Q : Exit → Act → List Frame → World → Prop} {cs : List Frame} {c : Code} (hq : ∀ l a cs w, ¬ Q (.goto l) a cs w) (h : c.wpSIn F n P Q a cs w) : (Code.scope c).wpSIn F n P Q a cs w := by
 intro b k hkd hro hb hr
 obtain ⟨e, a₁, cs₁, w₁, hl, hq₁, harr⟩ := h b (.inScope c :: k) hkd hro hb hr
 have s0 : step P (lone (b.atR a (.code (.scope c) :: k)) cs w) = .next (lone (b.atR a (.code c :: .inScope c :: k)) cs w) :=
  step_lone_go (by simp [stepG, stepG.exec, Frame.atR])
 have s1 : ∀ (a : Act) (cs : List Frame) (w : World), step P (lone (b.atR a (.inScope c :: k)) cs w) = .next (lone (b.atR a k) cs w) := fun a cs w =>
  step_lone_go (by simp [stepG, stepG.exec, Frame.atR])
 have f0 : (lone (b.atR a (.code (.scope c) :: k)) cs w).fenced P F := fenced_calm hb hr rfl
 have hs : StepsIn (Machine.fenced P F) P (lone (b.atR a (.code (.scope c) :: k)) cs w) (lone (b.atR a (.code c :: .inScope c :: k)) cs w) := .one f0 s0
 cases e with
 | normal => exact ⟨.normal, a₁, cs₁, w₁, hl, hq₁, hs.trans (StepsIn.trans harr (.one (fenced_calm (fr := b.atR a₁ (.inScope c :: k)) hb (hl ▸ hr) rfl) (s1 a₁ cs₁ w₁)))⟩
 | exit id =>
  refine ⟨.exit id, a₁, cs₁, w₁, hl, hq₁, fun k' hk => hs.trans (harr.1 k' (by simp [exitTo, hk])), fun hr hk => ?_⟩
  obtain ⟨k₁, h1, h2⟩ := harr.2 hr (by simp [exitTo, hk])
  exact ⟨k₁, h1, hs.trans h2⟩
 | goto l => exact absurd hq₁ (hq l a₁ cs₁ w₁)
 | ret => exact ⟨_, a₁, cs₁, w₁, hl, hq₁, fun hr => let ⟨todo, h1⟩ := harr.1 hr; ⟨todo, hs.trans h1⟩, fun hr => let ⟨k₁, h1⟩ := harr.2 hr; ⟨k₁, hs.trans h1⟩⟩
 | panic ch => obtain ⟨todo, h1⟩ := harr; exact ⟨_, a₁, cs₁, w₁, hl, hq₁, todo, hs.trans h1⟩
 | outgrown => exact ⟨_, a₁, cs₁, w₁, hl, hq₁, harr.imp id (Outgrown.of_steps hs.steps)⟩

theorem plain_wpS {F : Fence} {Q : Exit → Act → List Frame → World → Prop} {cs : List Frame} (hF : ∀ f, F.fn f) {ops : Array Oper} : ∀ {os : List Oper} {k : Nat}, (∀ j, j < os.length → ops[k + j]? = os[j]?) → ∀ {l : List Ins} {e : Env} {tr : List Mark1} {e' : Env}, OT P H0 l e h tr e' h →
  os.map (compIns P ops) = l → plainL l = true → opsOk N l = true → ∀ {a : Act}, EInv ρ D N e a →
  (∀ a', EInv ρ D N e' a' → a'.defers = a.defers → Q .normal a' cs w) → wpOpsSIn F n P ops Q (List.range' k os.length) a cs w
 | [], k, hat, l, e, tr, e', hot, hos, hpl, hok, a, he, hk => by
  simp only [List.map_nil] at hos
  subst hos
  cases tr with
  | cons m tr => simp [OT] at hot
  | nil =>
   simp only [OT] at hot
   obtain ⟨rfl, _⟩ := hot
   exact hk a he rfl
 | o :: os, k, hat, l, e, tr, e', hot, hos, hpl, hok, a, he, hk => by
  simp only [List.map_cons] at hos
  subst hos
  cases tr with
  | nil => simp [OT] at hot
  | cons m tr =>
   have h0 : ops[k]? = some o := by have := hat 0 (by simp); simpa using this
   obtain ⟨q, hq⟩ : ∃ q, compIns P ops o = q := ⟨_, rfl⟩
   rw [hq] at hot hpl hok
   obtain ⟨qd, qg, qop, qargs⟩ := q
   have hdst := (compIns_inv hq).1
   simp only [opsOk, Bool.and_eq_true] at hok
   simp only [plainL, Bool.and_eq_true] at hpl
   simp only [OT] at hot
   obtain ⟨hmh, hmv, hot⟩ := hot
   simp only at hdst
   cases qop <;> cases qg <;> simp at hpl
   rename_i p
   rcases hot with ⟨hon, hw, hv, hrest⟩ | ⟨hon, hw, h1, hop, hrest⟩
   ·simp [wantedA] at hw
   ·obtain ⟨hp, hh1⟩ := hop
    rw [hh1] at hrest
    have hc := ((compIns_inv hq).2 (.inl (by simp))).1
    simp only at hc
    have hwr := wanted_real hq (.inl (by simp)) he
    rw [hmv] at hp
    have hpi := pI_sound (w := w) he hc hp
    rw [List.length_cons, List.range'_succ]
    unfold wpOpsSIn
    rw [h0]
    simp only
    refine ⟨fun f _ => hF f, ?_⟩
    rw [if_pos (by rw [hwr, hw]), hpi.1]
    simp only
    rw [← hdst]
    refine plain_wpS hF (k := k + 1) (fun j hj => ?_) hrest rfl hpl hok.2 (he.put hok.1 hpi.2) (fun a' g1 g2 => hk a' g1 (g2.trans (by cases qd <;> rfl)))
    have := hat (j + 1) (by simp only [List.length_cons]; omega)
    rw [show k + 1 + j = k + (j + 1) by omega, this, List.getElem?_cons_succ]

def leaveM (ρ : Rho) : AX → FrameMode
 | .panic v => .panicking [{ v := real ρ v, recovered := false }]
 | _ => .returning

theorem recoverD_of {ρ : Rho} {x : AX} {c₀ : Frame} {cs : List Frame} (hm : c₀.mode = leaveM ρ x) :
  ∃ u', settle u' = .returning ∧ ((recoverD (c₀ :: cs) = some (real ρ (recV x), { c₀ with mode := u' } :: cs)) ∨ (recoverD (c₀ :: cs) = none ∧ real ρ (recV x) = .nilIface ∧ u' = c₀.mode)) := by
 cases x with
 | panic v => exact ⟨.panicking [{ v := real ρ v, recovered := true }], rfl, .inl (by simp [recoverD, hm, leaveM, recV])⟩
 | normal => exact ⟨.returning, rfl, .inr ⟨by simp [recoverD, hm, leaveM], by simp [recV, real], by rw [hm]; rfl⟩⟩
 | ret => exact ⟨.returning, rfl, .inr ⟨by simp [recoverD, hm, leaveM], by simp [recV, real], by rw [hm]; rfl⟩⟩
 | exit id => exact ⟨.returning, rfl, .inr ⟨by simp [recoverD, hm, leaveM], by simp [recV, real], by rw [hm]; rfl⟩⟩

theorem sem_closure {fs : Nat → Option AFunc} {ms : Nat → String → Option Nat} (sys : SysOk P fs ms) {g : Nat} {args : List AV} {ag : AFunc} {x y : AX} {t : Nat} {l2 : List Ins} {rest2 : AC} {tr2 : List Mark1} {e4 e5 : Env} {h5 : Heap}
  (hg : fs g = some ag) (hlen : args.length ≤ ag.ntmps) (hbody : ag.body = .seq (.ops (rcvI t :: l2)) rest2) (hres : ag.results = []) (hnr : noRange rest2 = true)
  (hot : OT P H0 l2 ((Env.start ag.ntmps args).put (some t) (recV x)) h tr2 e4 h) (hpl : plainL l2 = true) (hrest : CodeSem P H0 false rest2 e4 h y e5 h5) (hy : y = .normal ∨ y = .ret)
  {R : Ending → FrameMode → World → Prop} (hi : Inv P H0 ρ D h w) (hd : allD D args) (hxd : (recV x).inD D)
  (hk : ∀ ρ' v u' w', settle u' = .returning → Inv P H0 ρ' (grow D h.next h5.next) h5 w' → Ext ρ D h w ρ' h5 w' → R (.returned v) u' w') :
  CallsDIn Fence.wide n P g (reals ρ args).toArray (leaveM ρ x) w R := by
 obtain ⟨fn, hfn, hcf⟩ := sys.fsOk g ag hg
 obtain ⟨c, rs, hb, hr, hname, hok, rfl⟩ := compFunc_inv hcf
 simp only at hlen hbody hres
 refine callsDIn_of_wpSIn hfn hb trivial ?_
 intro c₀ cs hm
 have he := enter_inv (ρ := ρ) hd hlen
 obtain ⟨u', hset, hrec⟩ := recoverD_of (cs := cs) hm
 have hgoto : ∀ l a cs' w, ¬ bodyPostS P fn c₀ cs R (.goto l) a cs' w := fun l a cs' w hh => hh
 have hafter : ∀ (code : Code), compCode P code = rest2 → codeOk fn.ntmps rest2 = true → ∀ (a : Act), EInv ρ D fn.ntmps e4 a → a.defers = [] →
   code.wpSIn Fence.wide n P (bodyPostS P fn c₀ cs R) a ({ c₀ with mode := u' } :: cs) w := by
  intro code hcc hcok a he4 had
  refine wpSIn_of_wpIn rfl ?_
  have hm0 : MInv [] w.heap.size ρ D h w a.defers := ⟨[], by rw [had]; rfl, List.nodup_nil, fun r hr => by simp at hr⟩
  refine Code.wpIn_mono ?_ (hrest code hcc fn.ntmps hcok none rfl ρ D w a w.heap.size n [] hi he4 hm0 (Nat.le_refl _))
  rintro ex a' w' ⟨ρ', hex, g1, g2, g3, g4, g5⟩
  have hdef := (g5 hnr).trans had
  have hrun := results_real (P := P) (fn := fn) (vs := []) g3 g1 hr (by rw [hres]; rfl)
  rcases hy with rfl | rfl
  ·have hex : ex = .normal := hex
   subst hex
   exact ⟨hdef, u', rfl, _, hrun.1, hk ρ' _ u' w' hset g1 g2⟩
  ·have hex : ex = .ret := hex
   subst hex
   exact ⟨hdef, u', rfl, _, hrun.1, hk ρ' _ u' w' hset g1 g2⟩
 have hcb : ∀ (code : Code), compCode P code = .seq (.ops (rcvI t :: l2)) rest2 → codeOk fn.ntmps (.seq (.ops (rcvI t :: l2)) rest2) = true →
   code.wpSIn Fence.wide n P (bodyPostS P fn c₀ cs R) { tmps := (reals ρ args).toArray ++ Array.replicate (fn.ntmps - (reals ρ args).toArray.size) Go.undef, defers := [] } (c₀ :: cs) w := by
  intro code
  induction code with
  | scope c' ih =>
   intro hcc hcok
   exact wpSIn_scope hgoto (ih (by simpa [compCode] using hcc) hcok)
  | seq c1 c2 _ _ =>
   intro hcc hcok
   simp only [compCode, AC.seq.injEq] at hcc
   simp only [codeOk, Bool.and_eq_true] at hcok
   refine wpSIn_seq ?_
   have hreg : ∀ (code : Code), compCode P code = .ops (rcvI t :: l2) → 
     code.wpSIn Fence.wide n P (Exit.thenS (c2.wpSIn Fence.wide n P (bodyPostS P fn c₀ cs R)) (bodyPostS P fn c₀ cs R)) { tmps := (reals ρ args).toArray ++ Array.replicate (fn.ntmps - (reals ρ args).toArray.size) Go.undef, defers := [] } (c₀ :: cs) w := by
    intro code
    induction code with
    | scope c' ih =>
     intro hcc
     exact wpSIn_scope (fun l a cs' w hh => hh) (ih (by simpa [compCode] using hcc))
    | region id os draw =>
     intro hcr
     obtain ⟨id', os', hcd, hos⟩ := compCode_ops (code := .region id os draw) rfl hcr
     simp only [Code.region.injEq] at hcd
     obtain ⟨_, rfl, rfl⟩ := hcd
     refine wpSIn_region ?_
     rcases hol : os.toList with _ | ⟨o, os1⟩
     ·rw [hol] at hos; simp at hos
     ·rw [hol] at hos
      simp only [List.map_cons, List.cons.injEq] at hos
      obtain ⟨hdst, hgd, c0, hoo, hcal⟩ := rcv_inv hos.1
      have hsz : os.size = os1.length + 1 := by rw [← Array.length_toList, hol]; rfl
      have h0 : os[0]? = some o := by rw [← Array.getElem?_toList, hol]; rfl
      rw [hsz, List.range_eq_range', List.range'_succ]
      unfold wpOpsSIn
      rw [h0]
      simp only
      refine ⟨fun _ _ => trivial, ?_⟩
      rw [if_pos (by simp [Region.wanted, hgd])]
      have hrun : (execOp (Act.eval { tmps := (reals ρ args).toArray ++ Array.replicate (fn.ntmps - (reals ρ args).toArray.size) Go.undef, defers := [] }) o).run P w = .ok .recover w := by
       unfold execOp
       rw [hoo]
       simp [resolve, hcal, Sem.run_bind, Result.andThen, invoke, builtin]
      rw [hrun]
      simp only
      have htb : dstOk fn.ntmps (some t) = true := by
       have := hcok.1
       simp only [opsOk, rcvI, Bool.and_eq_true] at this
       exact this.1
      have hok2 : opsOk fn.ntmps l2 = true := by
       have := hcok.1
       simp only [opsOk, Bool.and_eq_true] at this
       exact this.2
      have hgo : ∀ v, v = real ρ (recV x) → wpOpsSIn Fence.wide n P os (Exit.thenS (c2.wpSIn Fence.wide n P (bodyPostS P fn c₀ cs R)) (bodyPostS P fn c₀ cs R)) (List.range' (0 + 1) os1.length) (Act.put { tmps := (reals ρ args).toArray ++ Array.replicate (fn.ntmps - (reals ρ args).toArray.size) Go.undef, defers := [] } o.dst v) ({ c₀ with mode := u' } :: cs) w := by
       rintro v rfl
       rw [hdst]
       refine plain_wpS (fun _ => trivial) (k := 0 + 1) (fun j hj => ?_) hot hos.2 hpl hok2 (he.put htb hxd) (fun a' k1 k2 => ?_)
       ·rw [← Array.getElem?_toList, hol, show 0 + 1 + j = j + 1 by omega, List.getElem?_cons_succ]
       ·exact hafter c2 hcc.2 hcok.2 a' k1 k2
      rcases hrec with hrec | ⟨hrec, hni, hu'⟩
      ·rw [hrec]
       exact hgo _ rfl
      ·rw [hrec]
       simp only
       have := hgo .nilIface hni.symm
       rw [hu'] at this
       exact this
    | _ => intro hcr; obtain ⟨_, _, hcd, _⟩ := compCode_ops rfl hcr; simp at hcd
   exact hreg c1 hcc.1
  | _ => intro hcc hcok; obtain ⟨_, _, hcd, _⟩ := compCode_seq rfl hcc; simp at hcd
 rw [hbody] at hok
 exact hcb c hbody hok

theorem sem_callD {fs : Nat → Option AFunc} {ms : Nat → String → Option Nat} (sys : SysOk P fs ms) {f : Nat} {args : List AV} {af : AFunc} {A rest : AC} {l1 : List Ins} {dst : Option Nat} {r : Rand} {e1 e2 e3 : Env} {h2 h3 : Heap} {tr : List Mark1} {g : Nat} {first capt : List AV} {ag : AFunc} {x y : AX} {t : Nat} {l2 : List Ins} {rest2 : AC} {tr2 : List Mark1} {e4 e5 : Env} {h5 : Heap} {vs : List AV}
  (hf : fs f = some af) (hlen : args.length ≤ af.ntmps) (hfb : af.body = .seq A (.seq (.ops (l1 ++ [dferI dst r])) rest)) (hA : CodeSem P H0 false A (Env.start af.ntmps args) h .normal e1 h1) (hnA : noRange A = true) (hl1 : OT P H0 l1 e1 h1 tr e2 h2) (hr : e2.ev r = .func (.func g) first capt)
  (hrest : CodeSem P H0 false rest (e2.put dst .undef) h2 x e3 h3) (hx : x = .normal ∨ x = .ret ∨ ∃ v, x = .panic v)
  (hg : fs g = some ag) (hglen : (first ++ capt).length ≤ ag.ntmps) (hbody : ag.body = .seq (.ops (rcvI t :: l2)) rest2) (hgres : ag.results = []) (hnr : noRange rest2 = true)
  (hot : OT P H0 l2 ((Env.start ag.ntmps (first ++ capt)).put (some t) (recV x)) h3 tr2 e4 h3) (hpl : plainL l2 = true) (hrest2 : CodeSem P H0 false rest2 e4 h3 y e5 h5) (hy : y = .normal ∨ y = .ret)
  (hent : ∀ (args : Array Value) (w : World), (callFunc g args).run P w = .ok (.enter g args) w)
  (hres : resAll e3 h5 af.results = some vs) : CallSem P H0 f args h (resVal vs) h5 := by
 obtain ⟨fn, hfn, hcf⟩ := sys.fsOk f af hf
 obtain ⟨c, rs, hb, hrs, hname, hok, rfl⟩ := compFunc_inv hcf
 simp only at hlen hfb hres
 intro ρ D w n hi hd
 refine callsIn_of_wp_marks hfn hb trivial ?_
 have he := enter_inv (ρ := ρ) hd hlen
 rw [hfb] at hok
 simp only [codeOk, Bool.and_eq_true] at hok
 obtain ⟨hokA, hokD, hokR⟩ := hok
 rw [opsOk_app, Bool.and_eq_true] at hokD
 have hdst0 : dstOk fn.ntmps dst = true := by
  have := hokD.2
  simp only [opsOk, dferI, Bool.and_true] at this
  exact this
 generalize hRdef : (fun (e : Ending) (w' : World) => ∃ ρ', e = .returned (real ρ' (resVal vs)) ∧ Inv P H0 ρ' (grow D h.next h5.next) h5 w' ∧ Ext ρ D h w ρ' h5 w' ∧ (resVal vs).inD (grow D h.next h5.next)) = R
 have hgoto : ∀ l a w, ¬ bodyPostM Fence.wide n P fn R (.goto l) a w := fun l a w hh => hh
 have hbehind : ∀ (code : Code), compCode P code = rest → ∀ (ρ2 : Rho) (w2 : World) (a2 : Act), Inv P H0 ρ2 (grow D h.next h2.next) h2 w2 → Ext ρ D h w ρ2 h2 w2 → EInv ρ2 (grow D h.next h2.next) fn.ntmps (e2.put dst .undef) a2 →
   allD (grow D h.next h2.next) first → allD (grow D h.next h2.next) capt →
   a2.defers = [{ target := .fn (.func g) (reals ρ2 capt).toArray, args := (reals ρ2 first).toArray }] → code.wpIn Fence.wide n P (bodyPostM Fence.wide n P fn R) a2 w2 := by
  intro code hcc ρ2 w2 a2 i2 x2 ei2 hf2 hc2 hd2
  have hm2 : MInv a2.defers w2.heap.size ρ2 (grow D h.next h2.next) h2 w2 a2.defers := ⟨[], rfl, List.nodup_nil, fun r hr => by simp at hr⟩
  refine Code.wpIn_mono ?_ (hrest code hcc fn.ntmps hokR none rfl ρ2 _ w2 a2 w2.heap.size n a2.defers i2 ei2 hm2 (Nat.le_refl _))
  rintro ex a3 w3 ⟨ρ3, hex, i3, x3, ei3, m3, _⟩
  have hgg := grow_grow D x2.next x3.next
  have hxd : (recV x).inD (grow (grow D h.next h2.next) h2.next h3.next) := by
   rcases hx with rfl | rfl | ⟨v, rfl⟩
   ·simp [recV, AV.inD]
   ·simp [recV, AV.inD]
   ·exact hex.2
  have hfin : LeavesInM Fence.wide n P fn a3.tmps R a3.defers (leaveM ρ3 x) w3 := by
   refine leaves_post (u := leaveM ρ3 x) (by rcases hx with rfl | rfl | ⟨v, rfl⟩ <;> simp [leaveM]) i3 x3 m3 ?_
   intro w4 i4 x4
   rw [hd2]
   have hargs : reals ρ2 first = reals ρ3 first := (reals_agree (fun b hb => x4.agree b hb) first hf2).symm
   have hcapt : reals ρ2 capt = reals ρ3 capt := (reals_agree (fun b hb => x4.agree b hb) capt hc2).symm
   rw [hargs, hcapt]
   refine ⟨by rcases hx with rfl | rfl | ⟨v, rfl⟩ <;> simp [leaveM], .inr ⟨fun hh => by simp [Fence.wide] at hh, .func g, (reals ρ3 capt).toArray, g, (reals ρ3 (first ++ capt)).toArray, rfl, ?_, fun _ _ => trivial, ?_⟩⟩
   ·simp only [invoke, hent]
    congr 2
    simp [reals_append]
   ·have hda : allD (grow (grow D h.next h2.next) h2.next h3.next) (first ++ capt) := by
     rw [allD_iff]
     intro z hz
     rcases List.mem_append.1 hz with hz | hz
     ·exact inD_mono (fun b hb => .inl hb) _ ((allD_iff _ _).1 hf2 z hz)
     ·exact inD_mono (fun b hb => .inl hb) _ ((allD_iff _ _).1 hc2 z hz)
    refine sem_closure sys hg hglen hbody hgres hnr hot hpl hrest2 hy i4 hda hxd ?_
    intro ρ5 v u' w5 hset i5 x5
    show LeavesInM Fence.wide n P fn a3.tmps R [] (settle u') w5
    rw [hset]
    have hx35 := Ext.trans i2.lt x4 x5
    have hgg5 := grow_grow (grow D h.next h2.next) x3.next x5.next
    rw [hgg5] at i5
    have hgg2 := grow_grow D x2.next hx35.next
    rw [hgg2] at i5
    have ei5 : EInv ρ5 (grow D h.next h5.next) fn.ntmps e3 a3 := by
     have := ei3.mono (ρ' := ρ5) (D' := grow (grow (grow D h.next h2.next) h2.next h3.next) h3.next h5.next) x5.agree (fun _ => .inl)
     rw [hgg5, hgg2] at this
     exact this
    have hrun := results_real (P := P) (fn := fn) ei5 i5 hrs hres
    refine ⟨_, hrun.1, ?_⟩
    rw [← hRdef]
    exact ⟨ρ5, rfl, i5, Ext.trans hi.lt x2 hx35, hrun.2⟩
  rcases hx with rfl | rfl | ⟨v, rfl⟩
  ·have hex : ex = .normal := hex
   subst hex; exact hfin
  ·have hex : ex = .ret := hex
   subst hex; exact hfin
  ·obtain ⟨hex, _⟩ := hex
   subst hex; exact hfin
 have hregion : ∀ (code : Code), compCode P code = .ops (l1 ++ [dferI dst r]) → ∀ (c3 : Code), compCode P c3 = rest → ∀ (ρ1 : Rho) (w1 : World) (a1 : Act), Inv P H0 ρ1 (grow D h.next h1.next) h1 w1 → Ext ρ D h w ρ1 h1 w1 → EInv ρ1 (grow D h.next h1.next) fn.ntmps e1 a1 →
   a1.defers = [] → code.wpIn Fence.wide n P (Exit.then (c3.wpIn Fence.wide n P (bodyPostM Fence.wide n P fn R)) (bodyPostM Fence.wide n P fn R)) a1 w1 := by
  intro code
  induction code with
  | scope c' ih =>
   intro hcc c3 hc3 ρ1 w1 a1 i1 x1 ei1 hd1
   exact wpIn_scope (fun l a w hh => hh) (ih (by simpa [compCode] using hcc) c3 hc3 ρ1 w1 a1 i1 x1 ei1 hd1)
  | region id os draw =>
   intro hcc c3 hc3 ρ1 w1 a1 i1 x1 ei1 hd1
   obtain ⟨id', os', hcd, hos⟩ := compCode_ops (code := .region id os draw) rfl hcc
   simp only [Code.region.injEq] at hcd
   obtain ⟨_, rfl, rfl⟩ := hcd
   refine wpIn_region_list ?_
   have hsplit : os.toList = os.toList.take l1.length ++ os.toList.drop l1.length := (List.take_append_drop _ _).symm
   have hpre : (os.toList.take l1.length).map (compIns P os) = l1 := by rw [List.map_take, hos]; simp
   have hsuf : (os.toList.drop l1.length).map (compIns P os) = [dferI dst r] := by rw [List.map_drop, hos]; simp
   rw [hsplit]
   refine plain_pre (ro := none) hl1 hpre hokD.1 i1 ei1 ?_
   intro ρ2 w2 a2 i2 x2 ei2 hd2
   have hgg := grow_grow D x1.next x2.next
   rw [hgg] at i2 ei2
   have x12 := Ext.trans hi.lt x1 x2
   rcases hol : os.toList.drop l1.length with _ | ⟨o, os1⟩
   ·rw [hol] at hsuf; simp at hsuf
   ·rw [hol] at hsuf
    simp only [List.map_cons, List.cons.injEq, List.map_eq_nil_iff] at hsuf
    obtain ⟨hc0, rfl⟩ := hsuf
    obtain ⟨hdst, hgd, cl, f0, hoo, hcal, hca, hrf⟩ := dfer_inv hc0
    have hev := rand_real ei2 hrf
    rw [hr] at hev
    simp only [AV.inD] at hev
    unfold wpListIn
    rw [if_pos (by simp [Region.wanted, hgd])]
    refine ⟨fun _ _ => trivial, ?_⟩
    have hrun : (Oper.semAt none a2.eval o).run P w2 = .ok (.defer { target := .fn (.func g) (reals ρ2 capt).toArray, args := (reals ρ2 first).toArray }) w2 := by
     rw [Oper.semAt_none]
     unfold execOp
     rw [hoo]
     have hargs : cl.args.map a2.eval = #[] := by
      apply Array.ext'
      simp [hca]
     simp [resolve, hcal, hev.1, real, Deferred.ofValue, hargs, Sem.run_bind, Result.andThen]
    show o.uponIn Fence.wide n P a2 _ _ ((Oper.semAt none a2.eval o).run P w2)
    rw [hrun]
    rw [Oper.uponIn_defer]
    unfold wpListIn
    show c3.wpIn Fence.wide n P (bodyPostM Fence.wide n P fn R) _ _
    refine hbehind c3 hc3 ρ2 w2 _ i2 x12 ?_ hev.2.2.1 hev.2.2.2 ?_
    ·have ei2' : EInv ρ2 (grow D h.next h2.next) fn.ntmps e2 { a2 with defers := { target := .fn (.func g) (reals ρ2 capt).toArray, args := (reals ρ2 first).toArray } :: a2.defers } := ⟨ei2.size, ei2.get, ei2.dom⟩
     have := ei2'.put (d := dst) (v := .undef) hdst0 (by simp [AV.undef, AV.inD, allD])
     rw [real_undef, ← hdst] at this
     rw [← hdst]
     exact this
    ·have hd0 : a2.defers = [] := hd2.trans hd1
     have : ∀ (a : Act) (d : Option Nat) (v : Value), (a.put d v).defers = a.defers := by intro a d v; cases d <;> rfl
     rw [this]
     simp [hd0]
  | _ => intro hcc; obtain ⟨_, _, hcd, _⟩ := compCode_ops rfl hcc; simp at hcd
 have htail : ∀ (code : Code), compCode P code = .seq (.ops (l1 ++ [dferI dst r])) rest → ∀ (ρ1 : Rho) (w1 : World) (a1 : Act), Inv P H0 ρ1 (grow D h.next h1.next) h1 w1 → Ext ρ D h w ρ1 h1 w1 → EInv ρ1 (grow D h.next h1.next) fn.ntmps e1 a1 →
   a1.defers = [] → code.wpIn Fence.wide n P (bodyPostM Fence.wide n P fn R) a1 w1 := by
  intro code
  induction code with
  | scope c' ih =>
   intro hcc ρ1 w1 a1 i1 x1 ei1 hd1
   exact wpIn_scope hgoto (ih (by simpa [compCode] using hcc) ρ1 w1 a1 i1 x1 ei1 hd1)
  | seq c1 c2 _ _ =>
   intro hcc ρ1 w1 a1 i1 x1 ei1 hd1
   simp only [compCode, AC.seq.injEq] at hcc
   exact wpIn_seq (hregion c1 hcc.1 c2 hcc.2 ρ1 w1 a1 i1 x1 ei1 hd1)
  | _ => intro hcc; obtain ⟨_, _, hcd, _⟩ := compCode_seq rfl hcc; simp at hcd
 have hwhole : ∀ (code : Code), compCode P code = .seq A (.seq (.ops (l1 ++ [dferI dst r])) rest) →
   code.wpIn Fence.wide n P (bodyPostM Fence.wide n P fn R) { tmps := (reals ρ args).toArray ++ Array.replicate (fn.ntmps - (reals ρ args).toArray.size) Go.undef, defers := [] } w := by
  intro code
  induction code with
  | scope c' ih =>
   intro hcc
   exact wpIn_scope hgoto (ih (by simpa [compCode] using hcc))
  | seq c1 c2 _ _ =>
   intro hcc
   simp only [compCode, AC.seq.injEq] at hcc
   refine wpIn_seq ?_
   have hm : MInv [] w.heap.size ρ D h w ([] : List Deferred) := ⟨[], rfl, List.nodup_nil, fun r hr => by simp at hr⟩
   refine Code.wpIn_mono ?_ (hA c1 hcc.1 fn.ntmps hokA none rfl ρ D w _ w.heap.size n [] hi he hm (Nat.le_refl _))
   rintro ex a1 w1 ⟨ρ1, hex, i1, x1, ei1, m1, hd1⟩
   have hex : ex = .normal := hex
   subst hex
   exact htail c2 hcc.2 ρ1 w1 a1 i1 x1 ei1 (hd1 hnA)
  | _ => intro hcc; obtain ⟨_, _, hcd, _⟩ := compCode_seq rfl hcc; simp at hcd
 exact hwhole c hfb
end
end Ads
end Go.Proofs.Ytlndlbngfgaoeaa
