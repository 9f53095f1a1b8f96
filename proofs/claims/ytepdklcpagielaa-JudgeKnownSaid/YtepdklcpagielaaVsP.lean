/-
  Calls that may panic.
-/
import Derived.Test.YtepdklcpagielaaVsX
set_option maxRecDepth 100000
set_option linter.unusedSimpArgs false
set_option linter.unusedVariables false
namespace Go.Proofs.Ytepdklcpagielaa
open Go Ads
namespace Ads
def VX (fs : Nat → Option AFunc) (ms : Nat → String → Option Nat) (f : Nat) (args : List AV) (h : Heap) (Q R : AV → Heap → Prop) : Prop :=
 (∃ v h', (∀ B, VS fs ms B (.call f args h) (.val v h')) ∧ Q v h') ∨ ∃ v h', (∀ B, VS fs ms B (.call f args h) (.pan v h')) ∧ R v h'
section
variable {fs : Nat → Option AFunc} {ms : Nat → String → Option Nat} {B : Nat} {rd : Bool} {z : Bool}
theorem VX.of {f : Nat} {args : List AV} {h : Heap} {Q R : AV → Heap → Prop} (hd : VD fs ms f args h Q) : VX fs ms f args h Q R := .inl hd
theorem VX.mono {f : Nat} {args : List AV} {h : Heap} {Q R Q' R' : AV → Heap → Prop} (hx : VX fs ms f args h Q R) (hq : ∀ v h', Q v h' → Q' v h') (hr : ∀ v h', R v h' → R' v h') : VX fs ms f args h Q' R' :=
 hx.imp (fun ⟨v, h', a, b⟩ => ⟨v, h', a, hq v h' b⟩) (fun ⟨v, h', a, b⟩ => ⟨v, h', a, hr v h' b⟩)
def endX (rs : List RVar) (Q R : AV → Heap → Prop) : AX → Env → Heap → Prop := fun x e h => match x with
 | .normal | .ret => ∃ vs, resAllV e h rs = some vs ∧ Q (resVal vs) h
 | .panic v => R v h
 | _ => False
theorem vx_begin {f : Nat} {af : AFunc} {args : List AV} {h : Heap} {Q R : AV → Heap → Prop} (hf : fs f = some af) (hlen : args.length ≤ af.ntmps)
  (hw : startF af.ntmps args fun e => VC fs ms h.next false af.body e h (endX af.results Q R)) : VX fs ms f args h Q R := by
 rw [startF_eq] at hw
 obtain ⟨x, e1, h1, hb, hk⟩ := hw
 cases x with
 | normal => obtain ⟨vs, h2, h3⟩ := hk; exact .inl ⟨_, _, fun B => .call hf hlen hb (.inl rfl) h2, h3⟩
 | ret => obtain ⟨vs, h2, h3⟩ := hk; exact .inl ⟨_, _, fun B => .call hf hlen hb (.inr rfl) h2, h3⟩
 | exit i => exact hk.elim
 | panic v => exact .inr ⟨_, _, fun B => .callP hf hlen hb, hk⟩
def callK (fs : Nat → Option AFunc) (ms : Nat → String → Option Nat) (vals : List AV) (h : Heap) (Q R : AV → Heap → Prop) : Prop := match vals with
 | .func (.func f) first capt :: args => VX fs ms f (first ++ (args ++ capt)) h Q R
 | _ => False
theorem callK_elim {vals : List AV} {h : Heap} {Q R : AV → Heap → Prop} (hc : callK fs ms vals h Q R) :
  (∃ v h', (∀ B, VS fs ms B (.op rd .call vals h) (.val v h')) ∧ Q v h') ∨ ∃ v h', (∀ B, VS fs ms B (.op rd .call vals h) (.pan v h')) ∧ R v h' := by
 unfold callK at hc
 split at hc
 ·rcases hc with ⟨v, h1, a, b⟩ | ⟨v, h1, a, b⟩
  ·exact .inl ⟨v, h1, fun B => .opCall (.callv (a B)), b⟩
  ·exact .inr ⟨v, h1, fun B => .opCallP (.callvP (a B)), b⟩
 ·exact hc.elim
theorem vc_opsX {l l1 : List Ins} {d : Option Nat} {ags : List Rand} {e : Env} {h : Heap} {Q : AX → Env → Heap → Prop} (hl : lastI l = some (l1, ⟨d, none, .call, ags⟩))
  (hw : vpO fs ms z l1 e h fun e1 h1 => evsK e1 ags fun vals => callK fs ms vals h1 (fun v h2 => putE e1 d v fun e2 => Q .normal e2 h2) fun v h2 => Q (.panic v) e1 h2) : VC fs ms B rd (.ops l) e h Q := by
 have := lastI_eq hl
 subst this
 obtain ⟨tr, e1, h1, a, hk⟩ := vpO_sound (rd := rd) (B := B) hw
 obtain ⟨hj, hk⟩ := evsK_sound hk
 rcases callK_elim (rd := rd) hk with ⟨v, h2, b, hq⟩ | ⟨v, h2, b, hr⟩
 ·rw [putE_eq] at hq
  obtain ⟨tr3, hc⟩ := vs_app a (.on (i := ⟨d, none, .call, ags⟩) rfl hj (b B) .nil)
  exact ⟨_, _, _, .ops hc, hq⟩
 ·exact ⟨_, _, _, .opsP (i := ⟨d, none, .call, ags⟩) (l2 := []) a rfl hj (b B), hr⟩
theorem vc_dopsX {l l1 : List Ins} {win : List (List Nat)} {d : Option Nat} {ags : List Rand} {e : Env} {h : Heap} {Q : AX → Env → Heap → Prop} (hl : lastI l = some (l1, ⟨d, none, .call, ags⟩)) (hwin : win.all (·.isEmpty) = true) (hlast : lastOk l = true)
  (hw : vpO fs ms z l1 e h fun e1 h1 => evsK e1 ags fun vals => callK fs ms vals h1 (fun v h2 => putE e1 d v fun e2 => Q .normal e2 h2) fun v h2 => Q (.panic v) e1 h2) : VC fs ms B rd (.dops l win) e h Q := by
 have := lastI_eq hl
 subst this
 obtain ⟨tr, e1, h1, a, hk⟩ := vpO_sound (rd := rd) (B := B) hw
 obtain ⟨hj, hk⟩ := evsK_sound hk
 rcases callK_elim (rd := rd) hk with ⟨v, h2, b, hq⟩ | ⟨v, h2, b, hr⟩
 ·rw [putE_eq] at hq
  obtain ⟨tr3, hc⟩ := vs_app a (.on (i := ⟨d, none, .call, ags⟩) rfl hj (b B) .nil)
  exact ⟨_, _, _, .dops hwin hc, hq⟩
 ·exact ⟨_, _, _, .dopsP (i := ⟨d, none, .call, ags⟩) a (.inl hwin) hlast rfl rfl hj (b B), hr⟩
theorem vs_appT : ∀ {l1 l2 : List Ins} {e : Env} {h : Heap} {tr e1 h1 tr2 e2 h2}, VS fs ms B (.ops rd l1 e h) (.ops tr e1 h1) → VS fs ms B (.ops rd l2 e1 h1) (.ops tr2 e2 h2) → VS fs ms B (.ops rd (l1 ++ l2) e h) (.ops (tr ++ tr2) e2 h2)
 | [], l2, e, h, tr, e1, h1, tr2, e2, h2, a, b => by
  cases a
  exact b
 | i :: l1, l2, e, h, tr, e1, h1, tr2, e2, h2, a, b => by
  cases a with
  | off hw ha => exact .off hw (vs_appT ha b)
  | on hw ho hv ha => exact .on hw ho hv (vs_appT ha b)
theorem vc_dopsXW {l l1 : List Ins} {win : List (List Nat)} {d : Option Nat} {ags : List Rand} {e : Env} {h : Heap} {Q : AX → Env → Heap → Prop} (hl : lastI l = some (l1, ⟨d, none, .call, ags⟩)) (hlast : lastOk l = true)
  (hw : vpT fs ms z l1 e h fun tr e1 h1 => evsK e1 ags fun vals => callK fs ms vals h1 (fun v h2 => winOk l win (tr ++ [⟨h1, vals, v, true⟩]) h2 ∧ putE e1 d v fun e2 => Q .normal e2 h2) fun v h2 => winOk l1 (win.take l1.length) tr h1 ∧ Q (.panic v) e1 h2) : VC fs ms B rd (.dops l win) e h Q := by
 have := lastI_eq hl
 subst this
 obtain ⟨tr, e1, h1, a, hk⟩ := vpT_sound (rd := rd) (B := B) hw
 obtain ⟨hj, hk⟩ := evsK_sound hk
 rcases callK_elim (rd := rd) hk with ⟨v, h2, b, hwk, hq⟩ | ⟨v, h2, b, hwk, hr⟩
 ·rw [putE_eq] at hq
  exact ⟨_, _, _, .dopsW hwk (vs_appT a (.on (i := ⟨d, none, .call, ags⟩) rfl hj (b B) .nil)), hq⟩
 ·exact ⟨_, _, _, .dopsP (i := ⟨d, none, .call, ags⟩) a (.inr hwk) hlast rfl rfl hj (b B), hr⟩
theorem vc_panic {l l1 : List Ins} {d : Option Nat} {ags : List Rand} {e : Env} {h : Heap} {Q : AX → Env → Heap → Prop} (hl : lastI l = some (l1, ⟨d, none, .panic, ags⟩))
  (hw : vpO fs ms z l1 e h fun e1 h1 => evsK e1 ags fun vals => ∃ t x, vals = [.iface t x] ∧ x.pl = true ∧ Q (.panic (.iface t x)) e1 h1) : VC fs ms B rd (.ops l) e h Q := by
 have := lastI_eq hl
 subst this
 obtain ⟨tr, e1, h1, a, hk⟩ := vpO_sound (rd := rd) (B := B) hw
 obtain ⟨hj, t, x, h2, h3, hk⟩ := evsK_sound hk
 exact ⟨_, _, _, .opsP (i := ⟨d, none, .panic, ags⟩) (l2 := []) a rfl hj (h2 ▸ .opPanic h3), hk⟩
theorem vd_callD {f : Nat} {af : AFunc} {args : List AV} {h : Heap} {Q : AV → Heap → Prop} {A : AC} {l1 : List Ins} {dst : Option Nat} {r : Rand} {rest : AC} {g : Nat} {ag : AFunc} {t : Nat} {l2 : List Ins} {rest2 : AC} {first capt : List AV}
  (hf : fs f = some af) (hlen : args.length ≤ af.ntmps) (hbody : af.body = .seq A (.seq (.ops (l1 ++ [dferI dst r])) rest)) (hnr : noRange A = true)
  (hg : fs g = some ag) (hlen2 : (first ++ capt).length ≤ ag.ntmps) (hbody2 : ag.body = .seq (.ops (rcvI t :: l2)) rest2) (hres : ag.results = []) (hnr2 : noRange rest2 = true) (hpl : plainL l2 = true)
  (hw : startF af.ntmps args fun e => VC fs ms h.next false A e h fun x e1 h1 => x = .normal ∧ VO fs ms h.next false l1 e1 h1 fun e2 h2 => argsOk e2 [r] = true ∧ e2.ev r = .func (.func g) first capt ∧
   VC fs ms h2.next false rest (e2.put dst .undef) h2 fun x e3 h3 => (x = .normal ∨ x = .ret ∨ ∃ v, x = .panic v) ∧ (recV x).pl = true ∧ startF ag.ntmps (first ++ capt) fun e0 => VO fs ms h3.next false l2 (e0.put (some t) (recV x)) h3 fun e4 h4 => h4 = h3 ∧
    VC fs ms h3.next false rest2 e4 h3 fun y e5 h5 => (y = .normal ∨ y = .ret) ∧ ∃ vs, resAllV e3 h5 af.results = some vs ∧ Q (resVal vs) h5) : VD fs ms f args h Q := by
 simp only [startF_eq] at hw
 obtain ⟨x, e1, h1, a1, rfl, tr, e2, h2, a2, a3, a4, x3, e3, h3, a5, a6, a7, tr2, e4, h4, a8, rfl, y, e5, h5, a9, a10, vs, a11, a12⟩ := hw
 exact ⟨_, _, fun B => .callD hf hlen hbody a1 hnr a2 a3 a4 a5 a6 a7 hg hlen2 hbody2 hres hnr2 a8 hpl a9 a10 a11, a12⟩
end
end Ads
end Go.Proofs.Ytepdklcpagielaa
