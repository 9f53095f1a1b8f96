/-
  What big steps mean in the model: operations, calls, regions in the text's order.
-/
import Derived.Test.YtlndlbngfgaoeaaAdsBig
set_option linter.unusedSimpArgs false
set_option linter.unusedVariables false
namespace Go.Proofs.Ytlndlbngfgaoeaa
namespace Ads

def FW (ro : Option Nat) : Fence := { Fence.wide with round := ro }

def marksOf (rs : List Nat) : List Deferred := rs.map fun r => { target := .collected r, args := #[] }

def MInv (tl : List Deferred) (W0 : Nat) (ρ : Rho) (D : Dom) (h : Heap) (w : World) (ds : List Deferred) : Prop :=
 ∃ rs, ds = marksOf rs ++ tl ∧ rs.Nodup ∧ ∀ r ∈ rs, W0 ≤ r ∧ w.heap[r]? = some (.deferred (some [])) ∧ ∀ b, D b → h.get b ≠ none → (ρ b).blk ≠ r

section
variable (P : Program) (H0 : Nat)

def OpSem (op : IOp) (vals : List AV) (h : Heap) (v : AV) (h1 : Heap) : Prop :=
 ∀ (o : Oper) (rs : List Rand), compOp P o.op = some (op, rs) → ∀ (ρ : Rho) (D : Dom) (w : World) (a : Act) (N : Nat) (env : Env) (ro : Option Nat) (n : Nat),
  Inv P H0 ρ D h w → EInv ρ D N env a → rs.map env.ev = vals → ∀ (next : Act → World → Prop) (Q : Exit → Act → World → Prop),
  (∀ ρ' w', Inv P H0 ρ' (grow D h.next h1.next) h1 w' → Ext ρ D h w ρ' h1 w' → v.inD (grow D h.next h1.next) → next (a.put o.dst (real ρ' v)) w') →
  o.wpIn (FW ro) n P a w next Q

def OpOk (op : IOp) (vals : List AV) (h : Heap) (v : AV) (h1 : Heap) : Prop :=
 match op with
 | .p o => pI o vals = some v ∧ h1 = h
 | .a o => ∃ x f, aI o vals = some (x, f) ∧ v = f h.next ∧ h1 = h.new x
 | .r o => rI o vals h = some v ∧ h1 = h
 | .bad => False
 | op => OpSem P H0 op vals h v h1

def OT : List Ins → Env → Heap → List Mark1 → Env → Heap → Prop
 | [], e, h, [], e', h' => e' = e ∧ h' = h
 | i :: l, e, h, m :: tr, e', h' => m.h = h ∧ m.vals = i.args.map e.ev ∧
   ((m.on = false ∧ wantedA i e = false ∧ m.v = .undef ∧ OT l (e.put i.dst .undef) h tr e' h') ∨
    (m.on = true ∧ wantedA i e = true ∧ ∃ h1, OpOk P H0 i.op m.vals h m.v h1 ∧ OT l (e.put i.dst m.v) h1 tr e' h'))
 | _, _, _, _, _, _ => False

def CallSem (f : Nat) (args : List AV) (h : Heap) (v : AV) (h1 : Heap) : Prop :=
 ∀ (ρ : Rho) (D : Dom) (w : World) (n : Nat), Inv P H0 ρ D h w → allD D args → CallsIn Fence.wide n P f (reals ρ args).toArray w fun e w' =>
  ∃ ρ', e = .returned (real ρ' v) ∧ Inv P H0 ρ' (grow D h.next h1.next) h1 w' ∧ Ext ρ D h w ρ' h1 w' ∧ v.inD (grow D h.next h1.next)

def CallvSem (fv : AV) (args : List AV) (h : Heap) (v : AV) (h1 : Heap) : Prop :=
 ∀ (ρ : Rho) (D : Dom) (w : World), Inv P H0 ρ D h w → fv.inD D → allD D args → ∀ (o : Oper) (a : Act) (ro : Option Nat) (n : Nat) (next : Act → World → Prop) (Q : Exit → Act → World → Prop),
  (∀ ρ' w', Inv P H0 ρ' (grow D h.next h1.next) h1 w' → Ext ρ D h w ρ' h1 w' → v.inD (grow D h.next h1.next) → next (a.put o.dst (real ρ' v)) w') →
  o.uponIn (FW ro) n P a next Q ((do let d ← Deferred.ofValue (real ρ fv) (reals ρ args).toArray; invoke d.target d.args : Sem Next).run P w)

def ExIs (ρ : Rho) (D : Dom) : AX → Exit → Prop
 | .normal, ex => ex = .normal
 | .exit id, ex => ex = .exit id
 | .ret, ex => ex = .ret
 | .panic v, ex => ex = .panic [{ v := real ρ v, recovered := false }] ∧ v.inD D

def PostC (nr : Bool) (ds : List Deferred) (tl : List Deferred) (W0 : Nat) (ρ : Rho) (D : Dom) (h : Heap) (w : World) (N : Nat) (x : AX) (e' : Env) (h' : Heap) : Exit → Act → World → Prop := fun ex a' w' =>
 ∃ ρ', ExIs ρ' (grow D h.next h'.next) x ex ∧ Inv P H0 ρ' (grow D h.next h'.next) h' w' ∧ Ext ρ D h w ρ' h' w' ∧ EInv ρ' (grow D h.next h'.next) N e' a' ∧ MInv tl W0 ρ' (grow D h.next h'.next) h' w' a'.defers ∧ (nr = true → a'.defers = ds)

def CodeSem (rd : Bool) (c : AC) (e : Env) (h : Heap) (x : AX) (e' : Env) (h' : Heap) : Prop :=
 ∀ (code : Code), compCode P code = c → ∀ (N : Nat), codeOk N c = true → ∀ (ro : Option Nat), ro.isSome = rd → ∀ (ρ : Rho) (D : Dom) (w : World) (a : Act) (W0 n : Nat) (tl : List Deferred),
  Inv P H0 ρ D h w → EInv ρ D N e a → MInv tl W0 ρ D h w a.defers → W0 ≤ w.heap.size → code.wpIn (FW ro) n P (PostC P H0 (noRange c) a.defers tl W0 ρ D h w N x e' h') a w

def OpSemP (op : IOp) (vals : List AV) (h : Heap) (v : AV) (h1 : Heap) : Prop :=
 ∀ (o : Oper) (rs : List Rand), compOp P o.op = some (op, rs) → ∀ (ρ : Rho) (D : Dom) (w : World) (a : Act) (N : Nat) (env : Env) (ro : Option Nat) (n : Nat),
  Inv P H0 ρ D h w → EInv ρ D N env a → rs.map env.ev = vals → ∀ (next : Act → World → Prop) (Q : Exit → Act → World → Prop),
  (∀ ρ' w', Inv P H0 ρ' (grow D h.next h1.next) h1 w' → Ext ρ D h w ρ' h1 w' → v.inD (grow D h.next h1.next) → Q (.panic [{ v := real ρ' v, recovered := false }]) a w') →
  o.wpIn (FW ro) n P a w next Q
def CallSemP (f : Nat) (args : List AV) (h : Heap) (v : AV) (h1 : Heap) : Prop :=
 ∀ (ρ : Rho) (D : Dom) (w : World) (n : Nat), Inv P H0 ρ D h w → allD D args → CallsIn Fence.wide n P f (reals ρ args).toArray w fun e w' =>
  ∃ ρ', e = .panicked [{ v := real ρ' v, recovered := false }] ∧ Inv P H0 ρ' (grow D h.next h1.next) h1 w' ∧ Ext ρ D h w ρ' h1 w' ∧ v.inD (grow D h.next h1.next)
def CallvSemP (fv : AV) (args : List AV) (h : Heap) (v : AV) (h1 : Heap) : Prop :=
 ∀ (ρ : Rho) (D : Dom) (w : World), Inv P H0 ρ D h w → fv.inD D → allD D args → ∀ (o : Oper) (a : Act) (ro : Option Nat) (n : Nat) (next : Act → World → Prop) (Q : Exit → Act → World → Prop),
  (∀ ρ' w', Inv P H0 ρ' (grow D h.next h1.next) h1 w' → Ext ρ D h w ρ' h1 w' → v.inD (grow D h.next h1.next) → Q (.panic [{ v := real ρ' v, recovered := false }]) a w') →
  o.uponIn (FW ro) n P a next Q ((do let d ← Deferred.ofValue (real ρ fv) (reals ρ args).toArray; invoke d.target d.args : Sem Next).run P w)

def wpLoop (F : Fence) (n : Nat) (P : Program) (c : Code) (Q : Exit → Act → World → Prop) (a : Act) (w : World) : Prop :=
 ∀ (b : Frame) (k : List Item) (cs : List Frame), b.roundOf = F.round → F.fn b.fn → F.room (cs.length + 1 + n) →
  ∃ e a' w', Q e a' w' ∧ ArrivesIn (Machine.fenced P F) P (lone (b.atR a (.code c :: .inLoop c :: k)) cs w) b k cs e a' w'

def LoopSem (rd : Bool) (c : AC) (e : Env) (h : Heap) (x : AX) (e' : Env) (h' : Heap) : Prop :=
 ∀ (code : Code), compCode P code = c → ∀ (N : Nat), codeOk N c = true → ∀ (ro : Option Nat), ro.isSome = rd → ∀ (ρ : Rho) (D : Dom) (w : World) (a : Act) (W0 n : Nat) (tl : List Deferred),
  Inv P H0 ρ D h w → EInv ρ D N e a → MInv tl W0 ρ D h w a.defers → W0 ≤ w.heap.size → wpLoop (FW ro) n P code (PostC P H0 (noRange c) a.defers tl W0 ρ D h w N x e' h') a w

def PostA (Q : AX → Env → Heap → Prop) (nr : Bool) (ds : List Deferred) (tl : List Deferred) (W0 : Nat) (ρ : Rho) (D : Dom) (h : Heap) (w : World) (N : Nat) : Exit → Act → World → Prop := fun ex a' w' =>
 ∃ x e' h', Q x e' h' ∧ PostC P H0 nr ds tl W0 ρ D h w N x e' h' ex a' w'
def CodeAny (rd : Bool) (c : AC) (e : Env) (h : Heap) (Q : AX → Env → Heap → Prop) : Prop :=
 ∀ (code : Code), compCode P code = c → ∀ (N : Nat), codeOk N c = true → ∀ (ro : Option Nat), ro.isSome = rd → ∀ (ρ : Rho) (D : Dom) (w : World) (a : Act) (W0 n : Nat) (tl : List Deferred),
  Inv P H0 ρ D h w → EInv ρ D N e a → MInv tl W0 ρ D h w a.defers → W0 ≤ w.heap.size → code.wpIn (FW ro) n P (PostA P H0 Q (noRange c) a.defers tl W0 ρ D h w N) a w
def LoopAny (rd : Bool) (c : AC) (e : Env) (h : Heap) (Q : AX → Env → Heap → Prop) : Prop :=
 ∀ (code : Code), compCode P code = c → ∀ (N : Nat), codeOk N c = true → ∀ (ro : Option Nat), ro.isSome = rd → ∀ (ρ : Rho) (D : Dom) (w : World) (a : Act) (W0 n : Nat) (tl : List Deferred),
  Inv P H0 ρ D h w → EInv ρ D N e a → MInv tl W0 ρ D h w a.defers → W0 ≤ w.heap.size → wpLoop (FW ro) n P code (PostA P H0 Q (noRange c) a.defers tl W0 ρ D h w N) a w

def Sound : Task → Res → Prop
 | .code rd c e h, .code x e' h' => CodeSem P H0 rd c e h x e' h' ∧ ∀ c', c = .loop c' → LoopSem P H0 rd c' e h x e' h'
 | .any rd c e h, .post Q => CodeAny P H0 rd c e h Q ∧ ∀ c', c = .loop c' → LoopAny P H0 rd c' e h Q
 | .ops _ l e h, .ops tr e' h' => OT P H0 l e h tr e' h'
 | .op _ op vals h, .val v h1 => OpOk P H0 op vals h v h1
 | .callv fv args h, .val v h1 => CallvSem P H0 fv args h v h1
 | .op _ op vals h, .pan v h1 => op ≠ .bad ∧ OpSemP P H0 op vals h v h1
 | .callv fv args h, .pan v h1 => CallvSemP P H0 fv args h v h1
 | .call f args h, .pan v h1 => CallSemP P H0 f args h v h1 ∧ ∀ (args : Array Value) (w : World), (callFunc f args).run P w = .ok (.enter f args) w
 | .call f args h, .val v h1 => CallSem P H0 f args h v h1 ∧ ∀ (args : Array Value) (w : World), (callFunc f args).run P w = .ok (.enter f args) w
 | _, _ => True
end

section
variable {P : Program} {H0 W0 : Nat} {ρ ρ' : Rho} {D D' : Dom} {h h' h1 : Heap} {w w' : World} {N n : Nat} {env e e' : Env} {a : Act} {ro : Option Nat}

theorem MInv.ext {tl ds : List Deferred} (m : MInv tl W0 ρ D h w ds) (hlt : ∀ b, D b → b < h.next) (x : Ext ρ D h w ρ' h' w') : MInv tl W0 ρ' (grow D h.next h'.next) h' w' ds := by
 obtain ⟨rs, h1, h2, h3⟩ := m
 refine ⟨rs, h1, h2, fun r hr => ?_⟩
 obtain ⟨g1, g2, g3⟩ := h3 r hr
 have hlr : r < w.heap.size := (Array.getElem?_eq_some_iff.1 g2).1
 have hwr : ∀ b, D b → h.wr b = true → (ρ b).blk ≠ r := fun b hd hw => g3 b hd (Heap.wr_some hw)
 refine ⟨g1, by rw [x.frame r hlr hwr]; exact g2, ?_⟩
 rintro b (hb | ⟨hb1, hb2⟩) hn
 ·rw [x.agree b hb]
  exact g3 b hb (x.old b (hlt b hb) hn).1
 ·rcases x.fresh b hb1 hb2 with hf | ⟨b0, hd, hw, heq⟩
  ·omega
  ·rw [← heq]; exact hwr b0 hd hw

theorem EInv.mono (he : EInv ρ D N e a) (hag : ∀ b, D b → ρ' b = ρ b) (hD : ∀ b, D b → D' b) : EInv ρ' D' N e a where
 size := he.size
 get := fun i => by rw [real_agree hag _ (he.dom i)]; exact he.get i
 dom := fun i => inD_mono hD _ (he.dom i)

theorem env_get_put (e : Env) (d : Option Nat) (v : AV) (t : Nat) : (e.put d v).get t = if d = some t then v else e.get t := by
 cases d with
 | none => simp [Env.put]
 | some d =>
  simp only [Env.put, Env.get, Tr.get_set, Option.some.injEq]
  by_cases h : t = d
  ·subst h; simp
  ·rw [if_neg h, if_neg (fun e => h e.symm)]

theorem EInv.put {d : Option Nat} {v : AV} (he : EInv ρ D N e a) (hd : dstOk N d = true) (hv : v.inD D) : EInv ρ D N (e.put d v) (a.put d (real ρ v)) := by
 cases d with
 | none => exact he
 | some d =>
  have hlt : d < N := Nat.le_of_ble_eq_true (show Nat.ble (d + 1) N = true from hd)
  refine ⟨by simp [Act.put, he.size], fun i => ?_, fun i => ?_⟩
  ·rw [env_get_put]
   simp only [Act.put, Option.some.injEq]
   by_cases h : d = i
   ·subst h
    simp [Array.getD_eq_getD_getElem?, he.size, hlt]
   ·rw [if_neg h, ← he.get i]
    simp [Array.getD_eq_getD_getElem?, Array.getElem?_setIfInBounds_ne h]
  ·rw [env_get_put]
   split
   ·exact hv
   ·exact he.dom i

theorem real_undef (ρ : Rho) : real ρ .undef = Go.undef := by simp [AV.undef, real, reals, Go.undef]

theorem compIns_inv {ops : Array Oper} {o : Oper} {i : Ins} (h : compIns P ops o = i) : i.dst = o.dst ∧
  (i.op ≠ .bad ∨ i.guard.isSome = true → compOp P o.op = some (i.op, i.args) ∧ (match o.guard with
   | none => i.guard = none
   | some (j, want) => ∃ d, (ops[j]?).bind (·.dst) = some d ∧ i.guard = some (d, want))) := by
 unfold compIns at h
 simp only at h
 split at h
 ·rename_i g op as hg hc
  subst h
  refine ⟨rfl, fun _ => ⟨hc, ?_⟩⟩
  cases ho : o.guard with
  | none => simp [ho] at hg; simp [hg]
  | some jw =>
   obtain ⟨j, want⟩ := jw
   simp only [ho] at hg
   split at hg
   ·rename_i d hd
    simp only [Option.some.injEq] at hg
    exact ⟨d, hd, hg.symm⟩
   ·simp at hg
 ·subst h
  exact ⟨rfl, fun hh => by simp at hh⟩

theorem wanted_real {ops : Array Oper} {o : Oper} {i : Ins} (hc : compIns P ops o = i) (hi : i.op ≠ .bad ∨ i.guard.isSome = true) (he : EInv ρ D N e a) :
  Region.wanted o (yielded ops a.tmps) = wantedA i e := by
 have hinv := ((compIns_inv hc).2 hi).2
 unfold Region.wanted wantedA
 cases ho : o.guard with
 | none =>
  rw [ho] at hinv
  rw [hinv]
 | some jw =>
  obtain ⟨j, want⟩ := jw
  rw [ho] at hinv
  obtain ⟨d, hd, hg⟩ := hinv
  rw [hg]
  simp only [yielded, hd, Option.bind_some]
  have hget := he.get d
  rw [Array.getD_eq_getD_getElem?] at hget
  cases hx : e.get d <;> rw [hx] at hget <;> simp only [real] at hget <;> cases ht : a.tmps[d]? <;> simp [ht, Go.undef] at hget <;> first | (subst hget; simp) | skip
  all_goals (try rfl)
  all_goals simp_all

theorem semAt_of {o : Oper} {op : IOp} {rs : List Rand} (hc : compOp P o.op = some (op, rs)) (ρv : Operand → Value) : Oper.semAt ro ρv o = execOp ρv o := by
 refine Oper.semAt_eq ro ρv o ?_
 intro c hd
 rw [hd] at hc
 simp [compOp] at hc

theorem wpIn_of {o : Oper} {op : IOp} {rs : List Rand} {next : Act → World → Prop} {Q : Exit → Act → World → Prop} (hc : compOp P o.op = some (op, rs))
  (h : o.uponIn (FW ro) n P a next Q ((execOp a.eval o).run P w)) : o.wpIn (FW ro) n P a w next Q := by
 refine ⟨fun _ _ => trivial, ?_⟩
 show o.uponIn (FW ro) n P a next Q ((Oper.semAt ro a.eval o).run P w)
 rw [semAt_of hc]
 exact h

theorem OpOk.sem {op : IOp} {vals : List AV} {v : AV} {h0 : Heap} (h : OpOk P H0 op vals h0 v h1) : OpSem P H0 op vals h0 v h1 := by
 cases op with
 | p o =>
  obtain ⟨hp, rfl⟩ := h
  intro o' rs hc ρ D w a N env ro n hi he hv next Q hk
  subst hv
  have := pI_sound (w := w) he hc hp
  refine wpIn_of hc ?_
  rw [this.1]
  exact hk ρ w (by rw [grow_self]; exact hi) (Ext.refl _ _ _ _) (by rw [grow_self]; exact this.2)
 | a o =>
  obtain ⟨x, f, hp, rfl, rfl⟩ := h
  intro o' rs hc ρ D w a N env ro n hi he hv next Q hk
  subst hv
  obtain ⟨obj, hrun, hblk, hf⟩ := aI_sound (H0 := H0) (w := w) he hc hp
  refine wpIn_of hc ?_
  have hst := step_new (w' := w.alloc obj) hi x 0 obj rfl rfl rfl rfl (hblk _ _ (fun _ => .inl) (fun b hb => upd_ne _ _ (by have := hi.lt b hb; omega)) hi.low)
  rw [hrun h0.next (upd ρ h0.next ⟨w.heap.size, 0, 0⟩) (upd_self _ _ _)]
  exact hk _ _ hst.1 hst.2 (hf _ _ (.inr ⟨Nat.le_refl _, by simp⟩))
 | r o =>
  obtain ⟨hp, rfl⟩ := h
  intro o' rs hc ρ D w a N env ro n hi he hv next Q hk
  subst hv
  have := rI_sound he hi hc hp
  refine wpIn_of hc ?_
  rw [this.1]
  exact hk ρ w (by rw [grow_self]; exact hi) (Ext.refl _ _ _ _) (by rw [grow_self]; exact this.2)
 | bad => exact absurd h (by simp [OpOk])
 | e o => exact h
 | call => exact h
 | invoke s => exact h
 | panic => exact h

theorem opE_sem {o : EOp} {vals : List AV} {v : AV} (hv : eI o vals h = some (v, h1)) : OpOk P H0 (.e o) vals h v h1 := by
 intro o' rs hc ρ D w a N env ro n hi he hvals next Q hk
 subst hvals
 obtain ⟨ρ', w', hrun, hinv, hext, hd⟩ := eI_sound he hi hc hv
 refine wpIn_of hc ?_
 rcases hrun with hrun | ⟨hrun, rfl⟩
 ·rw [hrun]; exact hk ρ' w' hinv hext hd
 ·rw [hrun]
  have := hk ρ' w' hinv hext hd
  rw [real_undef] at this
  exact this

theorem opK_sem {o : EOp} {vals : List AV} {v : AV} (hv : eK o vals h = some (v, h1)) : OpOk P H0 (.e o) vals h v h1 := by
 intro o' rs hc ρ D w a N env ro n hi he hvals next Q hk
 subst hvals
 obtain ⟨ρ', w', hrun, hinv, hext, hd⟩ := eK_sound he hi hc hv
 refine wpIn_of hc ?_
 rcases hrun with hrun | ⟨hrun, rfl⟩
 ·rw [hrun]; exact hk ρ' w' hinv hext hd
 ·rw [hrun]
  have := hk ρ' w' hinv hext hd
  rw [real_undef] at this
  exact this

theorem plain_pre {os2 : List Oper} {Q : Exit → Act → World → Prop} : ∀ {l : List Ins} {e : Env} {h : Heap} {tr : List Mark1} {e' : Env} {h' : Heap}, OT P H0 l e h tr e' h' →
  ∀ {ops : Array Oper} {os : List Oper}, os.map (compIns P ops) = l → opsOk N l = true → ∀ {ρ : Rho} {D : Dom} {w : World} {a : Act}, Inv P H0 ρ D h w → EInv ρ D N e a →
  (∀ ρ' w' a', Inv P H0 ρ' (grow D h.next h'.next) h' w' → Ext ρ D h w ρ' h' w' → EInv ρ' (grow D h.next h'.next) N e' a' → a'.defers = a.defers → wpListIn (FW ro) n P ops Q os2 a' w') →
  wpListIn (FW ro) n P ops Q (os ++ os2) a w
 | [], e, h, tr, e', h', hot, ops, os, hos, hok, ρ, D, w, a, hi, he, hk => by
  cases tr with
  | cons m tr => simp [OT] at hot
  | nil =>
   simp only [OT] at hot
   obtain ⟨rfl, rfl⟩ := hot
   have : os = [] := by simpa using hos
   subst this
   exact hk ρ w a (by rw [grow_self]; exact hi) (Ext.refl _ _ _ _) (by rw [grow_self]; exact he) rfl
 | i :: l, e, h, tr, e', h', hot, ops, os, hos, hok, ρ, D, w, a, hi, he, hk => by
  cases tr with
  | nil => simp [OT] at hot
  | cons m tr =>
   cases os with
   | nil => simp at hos
   | cons o os =>
    simp only [List.map_cons, List.cons.injEq] at hos
    simp only [opsOk, Bool.and_eq_true] at hok
    simp only [OT] at hot
    obtain ⟨hmh, hmv, hot⟩ := hot
    have hdst := (compIns_inv hos.1).1
    rcases hot with ⟨hon, hw, hv, hrest⟩ | ⟨hon, hw, h1, hop, hrest⟩
    ·
     have hg : i.guard.isSome = true := by
      cases hg : i.guard with
      | none => simp [wantedA, hg] at hw
      | some _ => rfl
     have hwr := wanted_real hos.1 (.inr hg) he
     rw [List.cons_append]
     unfold wpListIn
     rw [if_neg (by rw [hwr, hw]; simp)]
     refine ⟨fun _ _ => trivial, ?_⟩
     rw [← real_undef ρ, ← hdst]
     exact plain_pre hrest hos.2 hok.2 hi (he.put hok.1 (by simp [AV.undef, AV.inD, allD])) (fun ρ' w' a' g1 g2 g3 g4 => hk ρ' w' a' g1 g2 g3 (g4.trans (by cases i.dst <;> rfl)))
    ·have hnb : i.op ≠ .bad := by
      intro hb; rw [hb] at hop; exact hop
     have hwr := wanted_real hos.1 (.inl hnb) he
     have hc := ((compIns_inv hos.1).2 (.inl hnb)).1
     rw [List.cons_append]
     unfold wpListIn
     rw [if_pos (by rw [hwr, hw])]
     refine hop.sem o i.args hc ρ D w a N e ro n hi he hmv.symm _ _ ?_
     intro ρ' w' g1 g2 g3
     rw [← hdst]
     have he' : EInv ρ' (grow D h.next h1.next) N (e.put i.dst m.v) (a.put i.dst (real ρ' m.v)) := (he.mono g2.agree (fun _ => .inl)).put hok.1 g3
     refine plain_pre hrest hos.2 hok.2 g1 he' ?_
     intro ρ'' w'' a'' k1 k2 k3 k4
     have hn1 := g2.next
     have hn2 := k2.next
     rw [grow_grow D hn1 hn2] at k1 k3
     exact hk ρ'' w'' a'' k1 (Ext.trans hi.lt g2 k2) k3 (k4.trans (by cases i.dst <;> rfl))

theorem plain_region {Q : Exit → Act → World → Prop} {l : List Ins} {e : Env} {h : Heap} {tr : List Mark1} {e' : Env} {h' : Heap} (hot : OT P H0 l e h tr e' h')
  {ops : Array Oper} {os : List Oper} (hos : os.map (compIns P ops) = l) (hok : opsOk N l = true) {ρ : Rho} {D : Dom} {w : World} {a : Act} (hi : Inv P H0 ρ D h w) (he : EInv ρ D N e a)
  (hk : ∀ ρ' w' a', Inv P H0 ρ' (grow D h.next h'.next) h' w' → Ext ρ D h w ρ' h' w' → EInv ρ' (grow D h.next h'.next) N e' a' → a'.defers = a.defers → Q .normal a' w') :
  wpListIn (FW ro) n P ops Q os a w := by
 have := plain_pre (os2 := []) (ro := ro) (n := n) (Q := Q) hot hos hok hi he hk
 rwa [List.append_nil] at this

theorem plain_regionP {v : AV} {h2 : Heap} {i0 : Ins} {l2 : List Ins} {Q : Exit → Act → World → Prop} : ∀ {l : List Ins} {e : Env} {h : Heap} {tr : List Mark1} {e' : Env} {h' : Heap}, OT P H0 l e h tr e' h' →
  wantedA i0 e' = true → i0.op ≠ .bad → OpSemP P H0 i0.op (i0.args.map e'.ev) h' v h2 →
  ∀ {ops : Array Oper} {os : List Oper}, os.map (compIns P ops) = l ++ i0 :: l2 → opsOk N l = true → ∀ {ρ : Rho} {D : Dom} {w : World} {a : Act}, Inv P H0 ρ D h w → EInv ρ D N e a →
  (∀ ρ' w' a', Inv P H0 ρ' (grow D h.next h2.next) h2 w' → Ext ρ D h w ρ' h2 w' → EInv ρ' (grow D h.next h2.next) N e' a' → a'.defers = a.defers → v.inD (grow D h.next h2.next) → Q (.panic [{ v := real ρ' v, recovered := false }]) a' w') →
  wpListIn (FW ro) n P ops Q os a w
 | [], e, h, tr, e', h', hot, hw0, hb0, hop0, ops, os, hos, hok, ρ, D, w, a, hi, he, hk => by
  cases tr with
  | cons m tr => simp [OT] at hot
  | nil =>
   simp only [OT] at hot
   obtain ⟨rfl, rfl⟩ := hot
   cases os with
   | nil => simp at hos
   | cons o os =>
    simp only [List.map_cons, List.nil_append, List.cons.injEq] at hos
    have hwr := wanted_real hos.1 (.inl hb0) he
    have hc := ((compIns_inv hos.1).2 (.inl hb0)).1
    unfold wpListIn
    rw [if_pos (by rw [hwr, hw0])]
    refine hop0 o i0.args hc ρ D w a N e' ro n hi he rfl _ _ ?_
    intro ρ' w' g1 g2 g3
    exact hk ρ' w' a g1 g2 (he.mono g2.agree (fun _ => .inl)) rfl g3
 | i :: l, e, h, tr, e', h', hot, hw0, hb0, hop0, ops, os, hos, hok, ρ, D, w, a, hi, he, hk => by
  cases tr with
  | nil => simp [OT] at hot
  | cons m tr =>
   cases os with
   | nil => simp at hos
   | cons o os =>
    simp only [List.map_cons, List.cons_append, List.cons.injEq] at hos
    simp only [opsOk, Bool.and_eq_true] at hok
    simp only [OT] at hot
    obtain ⟨hmh, hmv, hot⟩ := hot
    have hdst := (compIns_inv hos.1).1
    rcases hot with ⟨hon, hw, hv, hrest⟩ | ⟨hon, hw, h1, hop, hrest⟩
    ·have hg : i.guard.isSome = true := by
      cases hg : i.guard with
      | none => simp [wantedA, hg] at hw
      | some _ => rfl
     have hwr := wanted_real hos.1 (.inr hg) he
     unfold wpListIn
     rw [if_neg (by rw [hwr, hw]; simp)]
     refine ⟨fun _ _ => trivial, ?_⟩
     rw [← real_undef ρ, ← hdst]
     exact plain_regionP hrest hw0 hb0 hop0 hos.2 hok.2 hi (he.put hok.1 (by simp [AV.undef, AV.inD, allD])) (fun ρ' w' a' g1 g2 g3 g4 g5 => hk ρ' w' a' g1 g2 g3 (g4.trans (by cases i.dst <;> rfl)) g5)
    ·have hnb : i.op ≠ .bad := by
      intro hb; rw [hb] at hop; exact hop
     have hwr := wanted_real hos.1 (.inl hnb) he
     have hc := ((compIns_inv hos.1).2 (.inl hnb)).1
     unfold wpListIn
     rw [if_pos (by rw [hwr, hw])]
     refine hop.sem o i.args hc ρ D w a N e ro n hi he hmv.symm _ _ ?_
     intro ρ' w' g1 g2 g3
     rw [← hdst]
     have he' : EInv ρ' (grow D h.next h1.next) N (e.put i.dst m.v) (a.put i.dst (real ρ' m.v)) := (he.mono g2.agree (fun _ => .inl)).put hok.1 g3
     refine plain_regionP hrest hw0 hb0 hop0 hos.2 hok.2 g1 he' ?_
     intro ρ'' w'' a'' k1 k2 k3 k4 k5
     have hn1 := g2.next
     have hn2 := k2.next
     rw [grow_grow D hn1 hn2] at k1 k3 k5
     exact hk ρ'' w'' a'' k1 (Ext.trans hi.lt g2 k2) k3 (k4.trans (by cases i.dst <;> rfl)) k5
theorem opsOk_app {l m : List Ins} : opsOk N (l ++ m) = (opsOk N l && opsOk N m) := by
 induction l with
 | nil => rfl
 | cons i l ih => simp only [List.cons_append, opsOk, ih, Bool.and_assoc]
end
end Ads
end Go.Proofs.Ytlndlbngfgaoeaa
