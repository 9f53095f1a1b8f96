/-
  Stops inside regions, loops and tests.
-/
import Derived.Test.YtmnolnoeibhjgaaGreatVRdA
set_option maxRecDepth 100000
set_option linter.unusedSimpArgs false
set_option linter.unusedVariables false
namespace Go.Proofs.YtmnolnoeibhjgaaGreat
open Go Ads
namespace Ads
theorem vc_loopV {fs : Nat → Option AFunc} {ms : Nat → String → Option Nat} {B : Nat} {rd : Bool} {c : AC} {e : Env} {h : Heap} {Q : AX → Env → Heap → Prop}
    (hw : VC fs ms B rd c e h fun x e1 h1 => match x with | .normal => VC fs ms B rd (.loop c) e1 h1 Q | x => Q x e1 h1) : VC fs ms B rd (.loop c) e h Q := by
  obtain ⟨x, e1, h1, hb, hk⟩ := hw
  cases x with
  | normal =>
    obtain ⟨x2, e2, h2, hb2, hk2⟩ := hk
    exact ⟨_, _, _, .loopN hb hb2, hk2⟩
  | exit i => exact ⟨_, _, _, .loopX hb rfl, hk⟩
  | ret => exact ⟨_, _, _, .loopX hb rfl, hk⟩
  | panic v => exact ⟨_, _, _, .loopX hb rfl, hk⟩
theorem eff_o {o : EOp} {args : List AV} {h h' : Heap} {v : AV} {k : AV → Heap → Prop} (hs : eV o args h = some (v, h')) (hq : ∀ h1, h1 = h' → k v h1) : ∃ v h1, eV o args h = some (v, h1) ∧ k v h1 := ⟨v, h', hs, hq h' rfl⟩
section
variable {fs : Nat → Option AFunc} {ms : Nat → String → Option Nat} {B : Nat} {rd : Bool}
theorem vs_app : ∀ {l1 l2 : List Ins} {e : Env} {h : Heap} {tr e1 h1 tr2 e2 h2}, VS fs ms B (.ops rd l1 e h) (.ops tr e1 h1) → VS fs ms B (.ops rd l2 e1 h1) (.ops tr2 e2 h2) → ∃ tr3, VS fs ms B (.ops rd (l1 ++ l2) e h) (.ops tr3 e2 h2)
  | [], l2, e, h, tr, e1, h1, tr2, e2, h2, a, b => by
    cases a
    exact ⟨_, b⟩
  | i :: l1, l2, e, h, tr, e1, h1, tr2, e2, h2, a, b => by
    cases a with
    | off hw ha =>
      obtain ⟨tr3, hc⟩ := vs_app ha b
      exact ⟨_, .off hw hc⟩
    | on hw ho hv ha =>
      obtain ⟨tr3, hc⟩ := vs_app ha b
      exact ⟨_, .on hw ho hv hc⟩
/-- Operations, with a stop after the first n. -/
theorem vo_cut {l : List Ins} {e : Env} {h : Heap} {K : Env → Heap → Prop} (n : Nat) (hw : VO fs ms B rd (l.take n) e h fun e1 h1 => VO fs ms B rd (l.drop n) e1 h1 K) : VO fs ms B rd l e h K := by
  obtain ⟨tr, e1, h1, a, tr2, e2, h2, b, hk⟩ := hw
  obtain ⟨tr3, hc⟩ := vs_app a b
  rw [List.take_append_drop] at hc
  exact ⟨tr3, e2, h2, hc, hk⟩
theorem vc_ops {l : List Ins} {e : Env} {h : Heap} {Q : AX → Env → Heap → Prop} (hw : VO fs ms B rd l e h fun e1 h1 => Q .normal e1 h1) : VC fs ms B rd (.ops l) e h Q := by
  obtain ⟨tr, e1, h1, a, hk⟩ := hw
  exact ⟨_, _, _, .ops a, hk⟩
theorem VO.mono {l : List Ins} {e : Env} {h : Heap} {K K' : Env → Heap → Prop} (hc : VO fs ms B rd l e h K) (hq : ∀ e' h', K e' h' → K' e' h') : VO fs ms B rd l e h K' := by
  obtain ⟨tr, e', h', hb, hk⟩ := hc
  exact ⟨tr, e', h', hb, hq e' h' hk⟩
/-- A test, with a stop ahead of what it leads to. -/
theorem vc_condV {c : Rand} {a b : AC} {e : Env} {h : Heap} {Q : AX → Env → Heap → Prop} (hw : evK e c fun v => match v with | .bool t => brn t (VC fs ms B rd a e h Q) (VC fs ms B rd b e h Q) | _ => False) : VC fs ms B rd (.cond c a b) e h Q := by
  obtain ⟨ha, hw⟩ := evK_sound hw
  split at hw
  · rename_i t ht
    rcases brn_elim hw with ⟨rfl, h2⟩ | ⟨rfl, h2⟩
    · obtain ⟨x, e1, h1, hb, hk⟩ := h2
      exact ⟨_, _, _, .cond ha ht hb, hk⟩
    · obtain ⟨x, e1, h1, hb, hk⟩ := h2
      exact ⟨_, _, _, .cond ha ht hb, hk⟩
  · exact hw.elim
end
end Ads
end Go.Proofs.YtmnolnoeibhjgaaGreat
