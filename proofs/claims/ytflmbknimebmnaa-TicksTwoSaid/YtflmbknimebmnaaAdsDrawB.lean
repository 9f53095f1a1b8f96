/-
  Regions that draw their order: a run in the text's order exists, and what it shows of numbers.
-/
import Derived.Test.YtflmbknimebmnaaAdsDrawA
set_option linter.unusedSimpArgs false
set_option linter.unusedVariables false
namespace Go.Proofs.Ytflmbknimebmnaa
namespace Ads

section
variable {P : Program} {H0 : Nat} {ro : Option Nat} {n : Nat}

theorem FW_room (ro : Option Nat) (n : Nat) : (FW ro).room n := fun _ h => by simp [FW, Fence.wide] at h

/-- Whoever may go on has somewhere to go on from. -/
theorem wpIn_exists {o : Oper} {a : Act} {w : World} {next : Act → World → Prop} {Q : Exit → Act → World → Prop} (h : o.wpIn (FW ro) n P a w next Q) :
    (∃ a' w', next a' w') ∨ ∃ ex a' w', Q ex a' w' := by
  have h := h.2
  generalize (o.semAt (FW ro).round a.eval).run P w = r at h
  cases r with
  | ok x w' =>
    cases x <;> simp only [Oper.uponIn] at h
    case value v => exact .inl ⟨_, _, h⟩
    case skip => exact .inl ⟨_, _, h⟩
    case defer d => exact .inl ⟨_, _, h⟩
    case enter f args =>
      obtain ⟨e, w'', fr, hr, _⟩ := h.2.2 [] (FW_room _ _)
      cases e with
      | returned v => exact .inl ⟨_, _, hr⟩
      | panicked c => exact .inr ⟨_, _, _, hr⟩
      | outgrown => obtain ⟨a1, w1, hq⟩ := hr; exact .inr ⟨_, _, _, hq⟩
    case row row args =>
      obtain ⟨v, w'', hr, _⟩ := h.2 (Frame.ofRow P row args .normal) [] (FW_room _ _)
      exact .inl ⟨_, _, hr⟩
    case round l f tmps as bd =>
      obtain ⟨e, w'', hr, _⟩ := h.2.2 (Frame.ofRow P "" #[] .normal) [] (FW_room _ _)
      cases e with
      | returned v => exact .inl ⟨_, _, hr⟩
      | panicked c => exact .inr ⟨_, _, _, hr⟩
      | outgrown => obtain ⟨a1, w1, hq⟩ := hr; exact .inr ⟨_, _, _, hq⟩
    all_goals (first | exact h.elim | skip)
  | halt x w' =>
    cases x <;> simp only [Oper.uponIn] at h
    case panic v => exact .inr ⟨_, _, _, h⟩
    all_goals (first | exact h.elim | skip)

theorem wpListIn_exists {ops : Array Oper} {Q : Exit → Act → World → Prop} : ∀ {os : List Oper} {a : Act} {w : World}, wpListIn (FW ro) n P ops Q os a w → ∃ ex a' w', Q ex a' w'
  | [], a, w, h => ⟨_, _, _, h⟩
  | o :: os, a, w, h => by
    unfold wpListIn at h
    split at h
    · rcases wpIn_exists h with ⟨a', w', h'⟩ | h'
      · exact wpListIn_exists h'
      · exact h'
    · exact wpListIn_exists h.2

theorem opsOk_take {N : Nat} : ∀ {l : List Ins} (i : Nat), opsOk N l = true → opsOk N (l.take i) = true
  | [], i, h => by simp [opsOk]
  | x :: l, 0, h => by simp [opsOk]
  | x :: l, i + 1, h => by
    simp only [opsOk, List.take_succ_cons, Bool.and_eq_true] at h ⊢
    exact ⟨h.1, opsOk_take i h.2⟩

theorem opsOk_drop {N : Nat} : ∀ {l : List Ins} (i : Nat), opsOk N l = true → opsOk N (l.drop i) = true
  | [], i, h => by simp [opsOk]
  | x :: l, 0, h => by simpa using h
  | x :: l, i + 1, h => by
    simp only [opsOk, Bool.and_eq_true] at h
    simpa using opsOk_drop i h.2

theorem opsOk_get {N : Nat} : ∀ {l : List Ins} {i : Nat} {x : Ins}, opsOk N l = true → l[i]? = some x → dstOk N x.dst = true
  | [], i, x, h, hx => by simp at hx
  | y :: l, 0, x, h, hx => by simp only [opsOk, Bool.and_eq_true] at h; simp at hx; subst hx; exact h.1
  | y :: l, i + 1, x, h, hx => by simp only [opsOk, Bool.and_eq_true] at h; simp at hx; exact opsOk_get h.2 hx

/-- A run in the text's order up to a place. -/
theorem OT.virtual {l : List Ins} {e : Env} {h : Heap} {tr : List Mark1} {e' : Env} {h' : Heap} (ho : OT P H0 l e h tr e' h') {ops : Array Oper} {os : List Oper}
    (hos : os.map (compIns P ops) = l) {N : Nat} (hok : opsOk N l = true) {ρ : Rho} {D : Dom} {w : World} {a : Act} (hi : Inv P H0 ρ D h w) (he : EInv ρ D N e a) (i : Nat) :
    ∃ ρ' w' a', Inv P H0 ρ' (grow D h.next (heapAt tr h' i).next) (heapAt tr h' i) w' ∧ EInv ρ' (grow D h.next (heapAt tr h' i).next) N (envAt l tr i e) a' ∧ h.next ≤ (heapAt tr h' i).next := by
  have := plain_region (ro := none) (n := 0) (ho.take i) (ops := ops) (os := os.take i) (by rw [List.map_take, hos]) (opsOk_take i hok) hi he
    (Q := fun _ a' w' => ∃ ρ', Inv P H0 ρ' (grow D h.next (heapAt tr h' i).next) (heapAt tr h' i) w' ∧ EInv ρ' (grow D h.next (heapAt tr h' i).next) N (envAt l tr i e) a' ∧ h.next ≤ (heapAt tr h' i).next)
    (fun ρ' w' a' g1 g2 g3 g4 => ⟨ρ', g1, g3, g2.next⟩)
  obtain ⟨_, a', w', ρ', g⟩ := wpListIn_exists this
  exact ⟨ρ', w', a', g⟩

theorem OT.drop : ∀ {l : List Ins} {e : Env} {h : Heap} {tr : List Mark1} {e' : Env} {h' : Heap}, OT P H0 l e h tr e' h' → ∀ i : Nat,
    OT P H0 (l.drop i) (envAt l tr i e) (heapAt tr h' i) (tr.drop i) e' h'
  | [], e, h, tr, e', h', ho, i => by
    cases tr with
    | cons _ _ => simp [OT] at ho
    | nil => simp only [OT] at ho; obtain ⟨rfl, rfl⟩ := ho; cases i <;> simp [OT, envAt, heapAt, nextHeap]
  | y :: l, e, h, tr, e', h', ho, i => by
    cases tr with
    | nil => simp [OT] at ho
    | cons m tr =>
      cases i with
      | zero =>
        have := ho.zero
        simpa [envAt, this] using ho
      | succ i =>
        simp only [OT] at ho
        simp only [List.drop_succ_cons, envAt]
        rcases ho.2.2 with ⟨h1, h2, h3, hr⟩ | ⟨h1, h2, h4, h3, hr⟩
        · have := hr.drop i
          rw [h3]
          exact this
        · exact hr.drop i

theorem heapAt_drop (tr : List Mark1) (h' : Heap) (i j : Nat) : heapAt (tr.drop i) h' j = heapAt tr h' (i + j) := by
  unfold heapAt; rw [List.drop_drop]

/-- What holds of a trace that starts somewhere. -/
structure Tra (P : Program) (H0 : Nat) (D : Dom) (N : Nat) (l : List Ins) (e : Env) (h : Heap) (tr : List Mark1) (h' : Heap) : Prop where
  mono : ∀ i j, i ≤ j → (heapAt tr h' i).next ≤ (heapAt tr h' j).next
  low : ∀ i, h.next ≤ (heapAt tr h' i).next
  top : ∀ i b, (heapAt tr h' i).next ≤ b → (heapAt tr h' i).get b = none
  run : ∀ i, ∃ ρ' w' a', Inv P H0 ρ' (grow D h.next (heapAt tr h' i).next) (heapAt tr h' i) w' ∧ EInv ρ' (grow D h.next (heapAt tr h' i).next) N (envAt l tr i e) a'

theorem OT.tra {l : List Ins} {e : Env} {h : Heap} {tr : List Mark1} {e' : Env} {h' : Heap} (ho : OT P H0 l e h tr e' h') {ops : Array Oper} {os : List Oper}
    (hos : os.map (compIns P ops) = l) {N : Nat} (hok : opsOk N l = true) {ρ : Rho} {D : Dom} {w : World} {a : Act} (hi : Inv P H0 ρ D h w) (he : EInv ρ D N e a) :
    Tra P H0 D N l e h tr h' where
  mono := fun i j hij => by
    obtain ⟨ρ', w', a', g1, g2, g3⟩ := ho.virtual hos hok hi he i
    obtain ⟨_, _, _, _, _, g⟩ := (ho.drop i).virtual (os := os.drop i) (by rw [List.map_drop, hos]) (opsOk_drop i hok) g1 g2 (j - i)
    rw [heapAt_drop] at g
    have : i + (j - i) = j := by omega
    rw [this] at g
    exact g
  low := fun i => by
    obtain ⟨_, _, _, _, _, g⟩ := ho.virtual hos hok hi he i
    exact g
  top := fun i => by
    obtain ⟨_, _, _, g, _, _⟩ := ho.virtual hos hok hi he i
    exact g.top
  run := fun i => by
    obtain ⟨ρ', w', a', g1, g2, _⟩ := ho.virtual hos hok hi he i
    exact ⟨ρ', w', a', g1, g2⟩
end

/- Two domains at once. -/
mutual
theorem inD_inter {D D' : Dom} : ∀ {v : AV}, v.inD D → v.inD D' → v.inD fun b => D b ∧ D' b
  | .bool _, _, _ | .int _ _, _, _ | .str _, _, _ | .nilp, _, _ | .nils, _, _ | .nilm, _, _ | .nilf, _, _ | .nili, _, _ => by simp [AV.inD]
  | .ptr b o, h, h' => by simp only [AV.inD] at *; exact ⟨h, h'⟩
  | .sl b o l c op, h, h' => by simp only [AV.inD] at *; exact ⟨h, h'⟩
  | .map b, h, h' => by simp only [AV.inD] at *; exact ⟨h, h'⟩
  | .yield b, h, h' => by simp only [AV.inD] at *; exact ⟨h, h'⟩
  | .func fn first capt, h, h' => by
    simp only [AV.inD] at *
    exact ⟨h.1, allD_inter h.2.1 h'.2.1, allD_inter h.2.2 h'.2.2⟩
  | .iface t v, h, h' => by
    simp only [AV.inD] at *
    exact inD_inter h h'
  | .agg cs, h, h' => by
    simp only [AV.inD] at *
    exact allD_inter h h'
  | .tup cs, h, h' => by
    simp only [AV.inD] at *
    exact allD_inter h h'
theorem allD_inter {D D' : Dom} : ∀ {l : List AV}, allD D l → allD D' l → allD (fun b => D b ∧ D' b) l
  | [], _, _ => by simp [allD]
  | v :: vs, h, h' => by
    simp only [allD] at *
    exact ⟨inD_inter h.1 h'.1, allD_inter h.2 h'.2⟩
end

theorem blkReal_inter {P : Program} {H0 : Nat} {ρ ρ' : Rho} {D D' : Dom} {L L' : Loc} {x : Blk} {w w' : World} (h : blkReal P H0 ρ D L x w) (h' : blkReal P H0 ρ' D' L' x w') :
    blkReal P H0 ρ (fun b => D b ∧ D' b) L x w := by
  cases x with
  | cells vs wr es =>
    obtain ⟨c, t, fr, hc, h1, h2⟩ := h
    obtain ⟨c', t', fr', hc', h1', h2'⟩ := h'
    exact ⟨c, t, fr, hc, fun i v hv => ⟨(h1 i v hv).1, inD_inter (h1 i v hv).2 (h1' i v hv).2⟩, h2⟩
  | map es =>
    obtain ⟨ms, k, hc, h0, h1, h2⟩ := h
    obtain ⟨ms', k', hc', h0', h1', h2'⟩ := h'
    exact ⟨ms, k, hc, h0, h1, fun p hp => ⟨inD_inter (h2 p hp).1 (h2' p hp).1, inD_inter (h2 p hp).2 (h2' p hp).2⟩⟩
  | loop st pend e ps a b =>
    obtain ⟨h0, l, hl, g1, g2, g3, g4, g5⟩ := h
    obtain ⟨h0', l', hl', g1', g2', g3', g4', g5'⟩ := h'
    exact ⟨h0, l, hl, g1, g2, g3, fun i => inD_inter (g4 i) (g4' i), g5⟩
  | defers => exact h

end Ads
end Go.Proofs.Ytflmbknimebmnaa
