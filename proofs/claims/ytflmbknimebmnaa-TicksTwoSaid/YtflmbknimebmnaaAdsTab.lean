/-
  Tables of compiled functions; what a closed run comes to in the model.
-/
import Derived.Test.YtflmbknimebmnaaAdsEvalC
set_option linter.unusedSimpArgs false
set_option linter.unusedVariables false
namespace Go.Proofs.Ytflmbknimebmnaa
namespace Ads

def AllT (q : Nat → AFunc → Prop) : List (Nat × AFunc) → Prop
  | [] => True
  | p :: l => q p.1 p.2 ∧ AllT q l

def ofL : List (Nat × AFunc) → Tr AFunc
  | [] => .nil
  | p :: l => (ofL l).set p.1 p.2

theorem ofL_get {q : Nat → AFunc → Prop} : ∀ {l : List (Nat × AFunc)}, AllT q l → ∀ {f : Nat} {af : AFunc}, (ofL l).get f = some af → q f af
  | [], _, f, af, h => by simp [ofL, Tr.get] at h
  | p :: l, hq, f, af, h => by
    simp only [ofL, Tr.get_set] at h
    split at h
    · rename_i he
      cases h
      rw [he]
      exact hq.1
    · exact ofL_get hq.2 h

section
variable {P : Program} {fs : Nat → Option AFunc} {ms : Nat → String → Option Nat}

theorem inv_empty (H0 : Nat) (ρ : Rho) (w : World) (hl : H0 ≤ w.heap.size) : Inv P H0 ρ (fun _ => False) ⟨0, .nil⟩ w :=
  ⟨fun b hb => hb.elim, fun b _ => rfl, hl, fun b x hb _ => hb.elim, fun b b' hb _ _ _ _ => hb.elim⟩

/-- What was there is as it was. -/
structure Kept (w w' : World) : Prop where
  size : w.heap.size ≤ w'.heap.size
  old : ∀ r : Nat, r < w.heap.size → w'.heap[r]? = w.heap[r]?
  tape : w'.tape = w.tape
  os : w'.os = w.os
  output : w'.output = w.output

/-- A call with arguments that hold no blocks, from an empty heap. -/
theorem BS.calls (sys : SysOk P fs ms) {f : Nat} {args : List AV} {v : AV} {h1 : Heap} (h : BS fs ms (.call f args ⟨0, .nil⟩) (.val v h1)) (ha : allD (fun _ => False) args) (w : World) :
    Calls P f (reals default args).toArray w fun e w' => ∃ ρ, e = .returned (real ρ v) ∧ Kept w w' := by
  have hs := (h.sound sys w.heap.size).1
  have := hs default (fun _ => False) w 0 (inv_empty _ _ w (Nat.le_refl _)) ha
  rw [callsIn_wide] at this
  refine this.mono ?_
  rintro e w' ⟨ρ', rfl, hi, hx, hv⟩
  exact ⟨ρ', rfl, hx.size, fun r hr => hx.frame r hr (fun b hb => hb.elim), hx.tape, hx.os, hx.output⟩

def isTrue : Res → Bool
  | .val (.bool true) _ => true
  | _ => false

/-- A closed function that the evaluator finds true. -/
theorem ev_true {n f : Nat} {h : Heap} (he : ev fs ms n (.call f [] h) isTrue = true) : ∃ h1, BS fs ms (.call f [] h) (.val (.bool true) h1) := by
  obtain ⟨r, hr, hk⟩ := ev_sound n _ _ he
  cases r with
  | val v h1 =>
    cases v with
    | bool b => cases b with
      | true => exact ⟨h1, hr⟩
      | false => simp [isTrue] at hk
    | _ => simp [isTrue] at hk
  | _ => simp [isTrue] at hk
end
end Ads
end Go.Proofs.Ytflmbknimebmnaa
