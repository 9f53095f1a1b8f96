/-
  What big steps mean in the model: code.
-/
import Derived.Test.YtlndlbngfgaoeaaAdsSem
set_option linter.unusedSimpArgs false
set_option linter.unusedVariables false
namespace Go.Proofs.Ytlndlbngfgaoeaa
namespace Ads
section
variable {P : Program} {H0 W0 : Nat} {ρ ρ' : Rho} {D D' : Dom} {h h' h1 : Heap} {w w' : World} {N n : Nat} {env e e' : Env} {a : Act} {ro : Option Nat} {rd : Bool}
variable {F : Fence} {Q : Exit → Act → World → Prop}

theorem wpIn_scope {c : Code} (hq : ∀ l a w, ¬ Q (.goto l) a w) (h : c.wpIn F n P Q a w) : (Code.scope c).wpIn F n P Q a w := by
 intro b k cs hro hb hr
 obtain ⟨e, a₁, w₁, hq₁, harr⟩ := h b (.inScope c :: k) cs hro hb hr
 have s0 : step P (lone (b.atR a (.code (.scope c) :: k)) cs w) = .next (lone (b.atR a (.code c :: .inScope c :: k)) cs w) :=
  step_lone_go (by simp [stepG, stepG.exec, Frame.atR])
 have s1 : ∀ (a : Act) (w : World), step P (lone (b.atR a (.inScope c :: k)) cs w) = .next (lone (b.atR a k) cs w) := fun a w =>
  step_lone_go (by simp [stepG, stepG.exec, Frame.atR])
 have f0 : (lone (b.atR a (.code (.scope c) :: k)) cs w).fenced P F := fenced_calm hb hr rfl
 have hs : StepsIn (Machine.fenced P F) P (lone (b.atR a (.code (.scope c) :: k)) cs w) (lone (b.atR a (.code c :: .inScope c :: k)) cs w) := .one f0 s0
 cases e with
 | normal => exact ⟨.normal, a₁, w₁, hq₁, hs.trans (StepsIn.trans harr (.one (fenced_calm (fr := b.atR a₁ (.inScope c :: k)) hb hr rfl) (s1 a₁ w₁)))⟩
 | exit id =>
  refine ⟨.exit id, a₁, w₁, hq₁, fun k' hk => hs.trans (harr.1 k' (by simp [exitTo, hk])), fun hr hk => ?_⟩
  obtain ⟨k₁, h1, h2⟩ := harr.2 hr (by simp [exitTo, hk])
  exact ⟨k₁, h1, hs.trans h2⟩
 | goto l => exact absurd hq₁ (hq l a₁ w₁)
 | ret => exact ⟨_, a₁, w₁, hq₁, fun hr => let ⟨todo, h1⟩ := harr.1 hr; ⟨todo, hs.trans h1⟩, fun hr => let ⟨k₁, h1⟩ := harr.2 hr; ⟨k₁, hs.trans h1⟩⟩
 | panic ch => obtain ⟨todo, h1⟩ := harr; exact ⟨_, a₁, w₁, hq₁, todo, hs.trans h1⟩
 | outgrown => exact ⟨_, a₁, w₁, hq₁, harr.imp id (Outgrown.of_steps hs.steps)⟩

theorem wpLoop_unfold {c : Code} (h : c.wpIn F n P (Exit.then (wpLoop F n P c Q) Q) a w) : wpLoop F n P c Q a w := by
 intro b k cs hro hb hr
 obtain ⟨e, a₁, w₁, hq, harr⟩ := h b (.inLoop c :: k) cs hro hb hr
 cases e with
 | normal =>
  obtain ⟨e₂, a₂, w₂, hq₂, harr₂⟩ := hq b k cs hro hb hr
  have s1 : step P (lone (b.atR a₁ (.inLoop c :: k)) cs w₁) = .next (lone (b.atR a₁ (.code c :: .inLoop c :: k)) cs w₁) :=
   step_lone_go (by simp [stepG, stepG.exec, Frame.atR])
  exact ⟨e₂, a₂, w₂, hq₂, .of_steps (StepsIn.trans harr (.one (fenced_calm (fr := b.atR a₁ (.inLoop c :: k)) hb hr rfl) s1)) harr₂⟩
 | exit id => exact ⟨_, a₁, w₁, hq, .pass (x := .inLoop c) rfl (fun _ _ => .inl (by simp)) harr⟩
 | goto l => exact ⟨_, a₁, w₁, hq, .pass (x := .inLoop c) rfl (fun _ _ => .inl (by simp)) harr⟩
 | ret => exact ⟨_, a₁, w₁, hq, .pass (x := .inLoop c) rfl (fun _ _ => .inl (by simp)) harr⟩
 | panic ch => exact ⟨_, a₁, w₁, hq, .pass (x := .inLoop c) rfl (fun _ _ => .inl (by simp)) harr⟩
 | outgrown => exact ⟨_, a₁, w₁, hq, .pass (x := .inLoop c) rfl (fun _ _ => .inl (by simp)) harr⟩

theorem wpIn_of_wpLoop {c : Code} (h : wpLoop F n P c Q a w) : (Code.loop c).wpIn F n P Q a w := by
 intro b k cs hro hb hr
 obtain ⟨e, a₁, w₁, hq, harr⟩ := h b k cs hro hb hr
 have s0 : step P (lone (b.atR a (.code (.loop c) :: k)) cs w) = .next (lone (b.atR a (.code c :: .inLoop c :: k)) cs w) :=
  step_lone_go (by simp [stepG, stepG.exec, Frame.atR])
 exact ⟨e, a₁, w₁, hq, .of_steps (.one (fenced_calm hb hr rfl) s0) harr⟩

def isScope : Code → Bool
 | .scope _ => true
 | _ => false

theorem codeSem_of {c : AC} {x : AX} (hcore : ∀ (code : Code), isScope code = false → compCode P code = c → ∀ (N : Nat), codeOk N c = true → ∀ (ro : Option Nat), ro.isSome = rd → ∀ (ρ : Rho) (D : Dom) (w : World) (a : Act) (W0 n : Nat) (tl : List Deferred),
  Inv P H0 ρ D h w → EInv ρ D N e a → MInv tl W0 ρ D h w a.defers → W0 ≤ w.heap.size → code.wpIn (FW ro) n P (PostC P H0 (noRange c) a.defers tl W0 ρ D h w N x e' h') a w) : CodeSem P H0 rd c e h x e' h' := by
 intro code
 induction code with
 | scope c' ih =>
  intro hc N hN ro hro ρ D w a W0 n tl hi he hm hW
  refine wpIn_scope ?_ (ih (by simpa [compCode] using hc) N hN ro hro ρ D w a W0 n tl hi he hm hW)
  intro l a w hh
  obtain ⟨ρ', hx, _⟩ := hh
  cases x <;> simp [ExIs] at hx
 | _ => intro hc N hN ro hro ρ D w a W0 n tl hi he hm hW; exact hcore _ rfl hc N hN ro hro ρ D w a W0 n tl hi he hm hW

theorem region_ops {os : Array Oper} {draw : Bool} {l : List Ins} (h : compRegion P os draw = .ops l) : draw = false ∧ os.toList.map (compIns P os) = l := by
 unfold compRegion at h
 cases draw with
 | false => simp at h; exact ⟨rfl, h⟩
 | true => simp only [Bool.not_true, Bool.false_eq_true, if_false] at h; split at h <;> simp at h

theorem region_not {os : Array Oper} {draw : Bool} : (∃ l, compRegion P os draw = .ops l) ∨ (∃ l win, compRegion P os draw = .dops l win) ∨ compRegion P os draw = .bad := by
 unfold compRegion
 cases draw with
 | false => exact .inl ⟨_, by simp; rfl⟩
 | true =>
  simp only [Bool.not_true, Bool.false_eq_true, if_false]
  split
  ·exact .inr (.inl ⟨_, _, rfl⟩)
  ·exact .inr (.inr rfl)

theorem post_refl {nr : Bool} {tl : List Deferred} {x : AX} {ex : Exit} (hx : ExIs ρ (grow D h.next h.next) x ex) (hi : Inv P H0 ρ D h w) (he : EInv ρ D N e a) (hm : MInv tl W0 ρ D h w a.defers) : PostC P H0 nr a.defers tl W0 ρ D h w N x e h ex a w := by
 refine ⟨ρ, hx, ?_⟩
 rw [grow_self]
 exact ⟨hi, Ext.refl _ _ _ _, he, hm, fun _ => rfl⟩

theorem post_trans {nr nr2 : Bool} {ds ds2 : List Deferred} {tl : List Deferred} {x : AX} {w1 : World} {ρ1 : Rho} (hi : Inv P H0 ρ D h w) (x1 : Ext ρ D h w ρ1 h1 w1) {ex : Exit} {a2 : Act} {w2 : World} (hnr : nr = true → nr2 = true ∧ ds2 = ds)
  (hp : PostC P H0 nr2 ds2 tl W0 ρ1 (grow D h.next h1.next) h1 w1 N x e' h' ex a2 w2) : PostC P H0 nr ds tl W0 ρ D h w N x e' h' ex a2 w2 := by
 obtain ⟨ρ2, hx, g1, g2, g3, g4, g5⟩ := hp
 have hn := g2.next
 rw [grow_grow D x1.next hn] at hx g1 g3 g4
 exact ⟨ρ2, hx, g1, Ext.trans hi.lt x1 g2, g3, g4, fun h => (g5 (hnr h).1).trans (hnr h).2⟩
theorem post_nr {nr nr2 : Bool} {ds tl : List Deferred} {x : AX} {ex : Exit} {a2 : Act} {w2 : World} (hnr : nr = true → nr2 = true) (hp : PostC P H0 nr2 ds tl W0 ρ D h w N x e' h' ex a2 w2) : PostC P H0 nr ds tl W0 ρ D h w N x e' h' ex a2 w2 := by
 obtain ⟨ρ2, hx, g1, g2, g3, g4, g5⟩ := hp
 exact ⟨ρ2, hx, g1, g2, g3, g4, fun h => g5 (hnr h)⟩
theorem post_ex {nr : Bool} {ds tl : List Deferred} {x : AX} {ex : Exit} {a2 : Act} {w2 : World} (hx : x.normal? = false) (hp : PostC P H0 nr ds tl W0 ρ D h w N x e' h' ex a2 w2) : ex ≠ .normal ∧ (∀ l, ex ≠ .goto l) ∧ ex ≠ .outgrown := by
 obtain ⟨ρ2, hx', _⟩ := hp
 cases x with
 | normal => simp [AX.normal?] at hx
 | exit id => have h : ex = .exit id := hx'; subst h; exact ⟨by simp, by simp, by simp⟩
 | ret => have h : ex = .ret := hx'; subst h; exact ⟨by simp, by simp, by simp⟩
 | panic v => obtain ⟨h, _⟩ := hx'; subst h; exact ⟨by simp, by simp, by simp⟩

theorem compCode_seq {code : Code} {c d : AC} (hs : isScope code = false) (h : compCode P code = .seq c d) : ∃ x y, code = .seq x y ∧ compCode P x = c ∧ compCode P y = d := by
 cases code <;> simp [compCode, isScope] at h hs
 case region id os draw =>
  rcases region_not (P := P) (os := os) (draw := draw) with ⟨l, hl⟩ | ⟨l, wn, hl⟩ | hl <;> rw [hl] at h <;> simp at h
 case seq x y => exact ⟨x, y, rfl, h.1, h.2⟩
 case cond c x y => split at h <;> simp at h
 case rangeFunc f ps x y => split at h <;> simp at h

theorem compCode_cond {code : Code} {r : Rand} {c d : AC} (hs : isScope code = false) (h : compCode P code = .cond r c d) : ∃ q x y, code = .cond q x y ∧ randOf q = some r ∧ compCode P x = c ∧ compCode P y = d := by
 cases code <;> simp [compCode, isScope] at h hs
 case region id os draw =>
  rcases region_not (P := P) (os := os) (draw := draw) with ⟨l, hl⟩ | ⟨l, wn, hl⟩ | hl <;> rw [hl] at h <;> simp at h
 case cond q x y =>
  split at h
  ·rename_i r' hr
   simp only [AC.cond.injEq] at h
   exact ⟨q, x, y, rfl, by rw [hr, h.1], h.2.1, h.2.2⟩
  ·simp at h
 case rangeFunc f ps x y => split at h <;> simp at h

theorem compCode_block {code : Code} {id : Nat} {c : AC} (hs : isScope code = false) (h : compCode P code = .block id c) : ∃ x, code = .block id x ∧ compCode P x = c := by
 cases code <;> simp [compCode, isScope] at h hs
 case region id os draw =>
  rcases region_not (P := P) (os := os) (draw := draw) with ⟨l, hl⟩ | ⟨l, wn, hl⟩ | hl <;> rw [hl] at h <;> simp at h
 case cond c x y => split at h <;> simp at h
 case block i x => exact ⟨x, by rw [h.1], h.2⟩
 case rangeFunc f ps x y => split at h <;> simp at h

theorem compCode_loop {code : Code} {c : AC} (hs : isScope code = false) (h : compCode P code = .loop c) : ∃ x, code = .loop x ∧ compCode P x = c := by
 cases code <;> simp [compCode, isScope] at h hs
 case region id os draw =>
  rcases region_not (P := P) (os := os) (draw := draw) with ⟨l, hl⟩ | ⟨l, wn, hl⟩ | hl <;> rw [hl] at h <;> simp at h
 case cond c x y => split at h <;> simp at h
 case loop x => exact ⟨x, rfl, h⟩
 case rangeFunc f ps x y => split at h <;> simp at h

theorem compCode_exit {code : Code} {id : Nat} (hs : isScope code = false) (h : compCode P code = .exit id) : code = .exit id := by
 cases code <;> simp [compCode, isScope] at h hs
 case region id os draw =>
  rcases region_not (P := P) (os := os) (draw := draw) with ⟨l, hl⟩ | ⟨l, wn, hl⟩ | hl <;> rw [hl] at h <;> simp at h
 case cond c x y => split at h <;> simp at h
 case exit i => rw [h]
 case rangeFunc f ps x y => split at h <;> simp at h

theorem compCode_ret {code : Code} (hs : isScope code = false) (h : compCode P code = .ret) : code = .ret := by
 cases code <;> simp [compCode, isScope] at h hs
 case region id os draw =>
  rcases region_not (P := P) (os := os) (draw := draw) with ⟨l, hl⟩ | ⟨l, wn, hl⟩ | hl <;> rw [hl] at h <;> simp at h
 case cond c x y => split at h <;> simp at h
 case ret => rfl
 case rangeFunc f ps x y => split at h <;> simp at h

theorem compCode_ops {code : Code} {l : List Ins} (hs : isScope code = false) (h : compCode P code = .ops l) : ∃ id os, code = .region id os false ∧ os.toList.map (compIns P os) = l := by
 cases code <;> simp [compCode, isScope] at h hs
 case region id os draw =>
  obtain ⟨rfl, h2⟩ := region_ops h
  exact ⟨id, os, rfl, h2⟩
 case cond c x y => split at h <;> simp at h
 case rangeFunc f ps x y => split at h <;> simp at h

theorem compCode_skip {code : Code} (hs : isScope code = false) (h : compCode P code = .skip) : code = .skip ∨ ∃ l, code = .label l := by
 cases code <;> simp [compCode, isScope] at h hs
 case region id os draw =>
  rcases region_not (P := P) (os := os) (draw := draw) with ⟨l, hl⟩ | ⟨l, wn, hl⟩ | hl <;> rw [hl] at h <;> simp at h
 case skip => exact .inl rfl
 case label l => exact .inr ⟨l, rfl⟩
 case cond c x y => split at h <;> simp at h
 case rangeFunc f ps x y => split at h <;> simp at h

theorem compCode_range {code : Code} {r : Rand} {ps : List Nat} {c d : AC} (hs : isScope code = false) (h : compCode P code = .rangeFunc r ps c d) :
  ∃ g qs x y, code = .rangeFunc g qs x y ∧ randOf g = some r ∧ qs.toList = ps ∧ compCode P x = c ∧ compCode P y = d := by
 cases code <;> simp [compCode, isScope] at h hs
 case region id os draw =>
  rcases region_not (P := P) (os := os) (draw := draw) with ⟨l, hl⟩ | ⟨l, wn, hl⟩ | hl <;> rw [hl] at h <;> simp at h
 case cond c x y => split at h <;> simp at h
 case rangeFunc g qs x y =>
  split at h
  ·rename_i r' hr
   simp only [AC.rangeFunc.injEq] at h
   exact ⟨g, qs, x, y, rfl, by rw [hr, h.1], h.2.1, h.2.2.1, h.2.2.2⟩
  ·simp at h

theorem sem_skip : CodeSem P H0 rd .skip e h .normal e h := by
 refine codeSem_of fun code hs hc N hN ro hro ρ D w a W0 n tl hi he hm hW => ?_
 rcases compCode_skip hs hc with rfl | ⟨l, rfl⟩
 ·exact wpIn_skip (post_refl rfl hi he hm)
 ·exact wpIn_label (post_refl rfl hi he hm)

theorem sem_exit {id : Nat} : CodeSem P H0 rd (.exit id) e h (.exit id) e h := by
 refine codeSem_of fun code hs hc N hN ro hro ρ D w a W0 n tl hi he hm hW => ?_
 rw [compCode_exit hs hc]
 exact wpIn_exit (post_refl rfl hi he hm)

theorem sem_ret : CodeSem P H0 rd .ret e h .ret e h := by
 refine codeSem_of fun code hs hc N hN ro hro ρ D w a W0 n tl hi he hm hW => ?_
 rw [compCode_ret hs hc]
 exact wpIn_ret (post_refl rfl hi he hm)

theorem sem_ops {l : List Ins} {tr : List Mark1} (hot : OT P H0 l e h tr e' h') : CodeSem P H0 rd (.ops l) e h .normal e' h' := by
 refine codeSem_of fun code hs hc N hN ro hro ρ D w a W0 n tl hi he hm hW => ?_
 obtain ⟨id, os, rfl, hos⟩ := compCode_ops hs hc
 refine wpIn_region_list ?_
 refine plain_region hot hos hN hi he ?_
 intro ρ' w' a' g1 g2 g3 g4
 exact ⟨ρ', rfl, g1, g2, g3, by rw [g4]; exact hm.ext hi.lt g2, fun _ => g4⟩
theorem sem_opsP {l l2 : List Ins} {i0 : Ins} {tr : List Mark1} {v : AV} {h2 : Heap} (hot : OT P H0 l e h tr e' h') (hw0 : wantedA i0 e' = true) (hop : i0.op ≠ .bad ∧ OpSemP P H0 i0.op (i0.args.map e'.ev) h' v h2) : CodeSem P H0 rd (.ops (l ++ i0 :: l2)) e h (.panic v) e' h2 := by
 refine codeSem_of fun code hs hc N hN ro hro ρ D w a W0 n tl hi he hm hW => ?_
 obtain ⟨id, os, rfl, hos⟩ := compCode_ops hs hc
 refine wpIn_region_list ?_
 have hN' : opsOk N (l ++ i0 :: l2) = true := hN
 rw [opsOk_app, Bool.and_eq_true] at hN'
 refine plain_regionP hot hw0 hop.1 hop.2 hos hN'.1 hi he ?_
 intro ρ' w' a' g1 g2 g3 g4 g5
 exact ⟨ρ', ⟨rfl, g5⟩, g1, g2, g3, by rw [g4]; exact hm.ext hi.lt g2, fun _ => g4⟩

theorem sem_seqN {c d : AC} {e1 : Env} {x : AX} (h1s : CodeSem P H0 rd c e h .normal e1 h1) (h2s : CodeSem P H0 rd d e1 h1 x e' h') : CodeSem P H0 rd (.seq c d) e h x e' h' := by
 refine codeSem_of fun code hs hc N hN ro hro ρ D w a W0 n tl hi he hm hW => ?_
 obtain ⟨y, z, rfl, hy, hz⟩ := compCode_seq hs hc
 simp only [codeOk, Bool.and_eq_true] at hN
 refine wpIn_seq ?_
 refine Code.wpIn_mono ?_ (h1s y hy N hN.1 ro hro ρ D w a W0 n tl hi he hm hW)
 rintro ex a' w' ⟨ρ', hx, g1, g2, g3, g4, g5⟩
 have hx : ex = .normal := hx
 subst hx
 show z.wpIn (FW ro) n P _ a' w'
 refine Code.wpIn_mono ?_ (h2s z hz N hN.2 ro hro ρ' _ w' a' W0 n tl g1 g3 g4 (Nat.le_trans hW g2.size))
 intro ex2 a2 w2 hp
 refine post_trans hi g2 (fun hn => ?_) hp
 simp only [noRange, Bool.and_eq_true] at hn
 exact ⟨hn.2, g5 hn.1⟩

theorem sem_seqX {c d : AC} {x : AX} (h1s : CodeSem P H0 rd c e h x e' h') (hx : x.normal? = false) : CodeSem P H0 rd (.seq c d) e h x e' h' := by
 refine codeSem_of fun code hs hc N hN ro hro ρ D w a W0 n tl hi he hm hW => ?_
 obtain ⟨y, z, rfl, hy, hz⟩ := compCode_seq hs hc
 simp only [codeOk, Bool.and_eq_true] at hN
 refine wpIn_seq ?_
 refine Code.wpIn_mono ?_ (h1s y hy N hN.1 ro hro ρ D w a W0 n tl hi he hm hW)
 intro ex a' w' hp
 have hp2 : PostC P H0 (noRange (.seq c d)) a.defers tl W0 ρ D h w N x e' h' ex a' w' := post_nr (fun hn => by simp only [noRange, Bool.and_eq_true] at hn; exact hn.1) hp
 have := (post_ex hx hp).1
 cases ex with
 | normal => exact absurd rfl this
 | _ => exact hp2

theorem sem_cond {r : Rand} {c d : AC} {t : Bool} {x : AX} (ht : e.ev r = .bool t) (h1s : CodeSem P H0 rd (bif t then c else d) e h x e' h') : CodeSem P H0 rd (.cond r c d) e h x e' h' := by
 refine codeSem_of fun code hs hc N hN ro hro ρ D w a W0 n tl hi he hm hW => ?_
 obtain ⟨q, y, z, rfl, hq, hy, hz⟩ := compCode_cond hs hc
 simp only [codeOk, Bool.and_eq_true] at hN
 have hr := (rand_real he hq).1
 rw [ht] at hr
 refine wpIn_cond (t := t) (by simpa [real] using hr) ?_
 cases t with
 | true => exact Code.wpIn_mono (fun ex a' w' hp => post_nr (fun hn => by simp only [noRange, Bool.and_eq_true] at hn; exact hn.1) hp) (h1s y hy N hN.1 ro hro ρ D w a W0 n tl hi he hm hW)
 | false => exact Code.wpIn_mono (fun ex a' w' hp => post_nr (fun hn => by simp only [noRange, Bool.and_eq_true] at hn; exact hn.2) hp) (h1s z hz N hN.2 ro hro ρ D w a W0 n tl hi he hm hW)

theorem sem_blockX {id : Nat} {c : AC} (h1s : CodeSem P H0 rd c e h (.exit id) e' h') : CodeSem P H0 rd (.block id c) e h .normal e' h' := by
 refine codeSem_of fun code hs hc N hN ro hro ρ D w a W0 n tl hi he hm hW => ?_
 obtain ⟨y, rfl, hy⟩ := compCode_block hs hc
 refine wpIn_block ?_
 refine Code.wpIn_mono ?_ (h1s y hy N hN ro hro ρ D w a W0 n tl hi he hm hW)
 rintro ex a' w' ⟨ρ', hx, rest⟩
 have hx : ex = .exit id := hx
 subst hx
 simp only [Exit.inBlock, if_true]
 exact ⟨ρ', rfl, rest⟩

theorem sem_blockN {id : Nat} {c : AC} {x : AX} (h1s : CodeSem P H0 rd c e h x e' h') (hne : ∀ i, x = .exit i → i ≠ id) : CodeSem P H0 rd (.block id c) e h x e' h' := by
 refine codeSem_of fun code hs hc N hN ro hro ρ D w a W0 n tl hi he hm hW => ?_
 obtain ⟨y, rfl, hy⟩ := compCode_block hs hc
 refine wpIn_block ?_
 refine Code.wpIn_mono ?_ (h1s y hy N hN ro hro ρ D w a W0 n tl hi he hm hW)
 rintro ex a' w' ⟨ρ', hx, rest⟩
 cases x with
 | exit i =>
  have hx : ex = .exit i := hx
  subst hx
  simp only [Exit.inBlock, if_neg (hne i rfl)]
  exact ⟨ρ', rfl, rest⟩
 | normal => have hx : ex = .normal := hx; subst hx; exact ⟨ρ', rfl, rest⟩
 | ret => have hx : ex = .ret := hx; subst hx; exact ⟨ρ', rfl, rest⟩
 | panic v => obtain ⟨hx, hd⟩ := hx; subst hx; exact ⟨ρ', ⟨rfl, hd⟩, rest⟩

theorem loop_N {c : AC} {e1 : Env} {x : AX} (h1s : CodeSem P H0 rd c e h .normal e1 h1) (h2s : LoopSem P H0 rd c e1 h1 x e' h') : LoopSem P H0 rd c e h x e' h' := by
 intro code hc N hN ro hro ρ D w a W0 n tl hi he hm hW
 refine wpLoop_unfold ?_
 refine Code.wpIn_mono ?_ (h1s code hc N hN ro hro ρ D w a W0 n tl hi he hm hW)
 rintro ex a' w' ⟨ρ', hx, g1, g2, g3, g4, g5⟩
 have hx : ex = .normal := hx
 subst hx
 show wpLoop (FW ro) n P code _ a' w'
 have := h2s code hc N hN ro hro ρ' _ w' a' W0 n tl g1 g3 g4 (Nat.le_trans hW g2.size)
 intro b k cs hro' hb hr
 obtain ⟨e2, a2, w2, hp, harr⟩ := this b k cs hro' hb hr
 exact ⟨e2, a2, w2, post_trans hi g2 (fun hn => ⟨hn, g5 hn⟩) hp, harr⟩

theorem loop_X {c : AC} {x : AX} (h1s : CodeSem P H0 rd c e h x e' h') (hx : x.normal? = false) : LoopSem P H0 rd c e h x e' h' := by
 intro code hc N hN ro hro ρ D w a W0 n tl hi he hm hW
 refine wpLoop_unfold ?_
 refine Code.wpIn_mono ?_ (h1s code hc N hN ro hro ρ D w a W0 n tl hi he hm hW)
 intro ex a' w' hp
 have := (post_ex hx hp).1
 cases ex with
 | normal => exact absurd rfl this
 | _ => exact hp

theorem sem_loop {c : AC} {x : AX} (h1s : LoopSem P H0 rd c e h x e' h') : CodeSem P H0 rd (.loop c) e h x e' h' := by
 refine codeSem_of fun code hs hc N hN ro hro ρ D w a W0 n tl hi he hm hW => ?_
 obtain ⟨y, rfl, hy⟩ := compCode_loop hs hc
 exact wpIn_of_wpLoop (h1s y hy N hN ro hro ρ D w a W0 n tl hi he hm hW)
end
end Ads
end Go.Proofs.Ytlndlbngfgaoeaa
