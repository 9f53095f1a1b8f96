/-
  Judge: a partition's notes. Judge: in how many ticks a partition ran. Rows that grow, in any heap. Calls that may panic.
-/
import Derived.Test.YtmnolnoeibhjgaaGreatZA
set_option maxRecDepth 100000
set_option linter.unusedSimpArgs false
set_option linter.unusedVariables false
namespace Go.Proofs.YtmnolnoeibhjgaaGreat
open Go Ads
namespace Ads
theorem src_nv {h : Heap} {b s n cap : Nat} {op wr : Bool} {es : Nat} {cs : List AV} (hg : h.get b = some (.cells cs wr es)) (hl : cs.length = n * s) : srcV s h (.sl b 0 n cap op) = some (n, cs) := by
 have b1 : Nat.ble (0 + n * s) cs.length = true := Nat.ble_eq_true_of_le (by omega)
 show (h.loadN b 0 (n * s)).map _ = _
 have : h.loadN b 0 (n * s) = some cs := by
  simp only [Heap.loadN, Heap.row, hg, b1, cond_true, List.drop_zero]
  rw [← hl, List.take_length]
 rw [this]
 rfl
theorem app_oneB {h : Heap} {s bytes b m : Nat} {vs cs : List AV} {x : AV} (hg : h.get b = some (.cells vs true s)) (hv : vs.length = m * s) (hsrc : srcV s h x = some (1, cs)) (hf : flatL cs = true) (hb : (m + 1) * bytes ≤ 140737488355328) (hm : m + 1 ≤ 140737488355328) :
  eV (.append s bytes) [.sl b 0 m m true, x] h = some (.sl h.next 0 (m + 1) (m + 1) true, (h.del b).new (.cells (vs ++ cs) true s)) := by
 have b1 : Nat.ble (m + 1) m = false := by cases hb : Nat.ble (m + 1) m with | false => rfl | true => (have := Nat.le_of_ble_eq_true hb; omega)
 have b2 : Nat.ble ((m + 1) * bytes) 140737488355328 = true := Nat.ble_eq_true_of_le hb
 have b3 : Nat.ble (m + 1) 9223372036854775807 = true := Nat.ble_eq_true_of_le (by omega)
 have b4 : Nat.ble (0 + m * s) vs.length = true := Nat.ble_eq_true_of_le (by omega)
 have b5 : Nat.beq vs.length (0 + m * s) = true := by rw [hv, Nat.zero_add]; exact Nat.beq_refl _
 have hld : h.loadN b 0 (m * s) = some vs := by
  simp only [Heap.loadN, Heap.row, hg, b4, cond_true, List.drop_zero]
  rw [← hv, List.take_length]
 simp only [eV, l2, hsrc]
 show cond (flatL cs) _ _ = _
 rw [hf, cond_true]
 show cond (Nat.beq 1 0 && Nat.ble m m) _ _ = _
 rw [show Nat.beq 1 0 = false from rfl, Bool.false_and, cond_false, b1, cond_false, b2, b3, Bool.and_self, cond_true, hg, hld]
 show cond true (cond (true && Nat.beq vs.length (0 + m * s) && Nat.beq m m && Nat.beq s s) _ _) _ = _
 rw [b5, Nat.beq_refl, Nat.beq_refl]
 rfl
theorem get_del_ne2 {h : Heap} {b c : Nat} (hn : c ≠ b) : (h.del b).get c = h.get c := by rw [Heap.get_del, if_neg hn]
end Ads
namespace Ir

structure Nt where
 a : Int
 k : Int
 p : Int
 t : Int
 n : Int
 e : Int
 s : List UInt8
 deriving DecidableEq
end Ir
end Go.Proofs.YtmnolnoeibhjgaaGreat
namespace Go.Proofs.YtmnolnoeibhjgaaGreat
open Go Ads
namespace Ads
theorem fr_delB {h0 h : Heap} {bs : List Nat} (hb : ∀ b ∈ bs, h0.next ≤ b) (fr : Fr h0 h []) : Fr h0 (delAll bs h) [] :=
 ⟨by rw [delAll_next]; exact fr.next, fun c hc hn => by rw [delAll_get, if_neg (fun hm => by have := hb c hm; omega)]; exact fr.keep c hc hn⟩
end Ads
namespace Ir
end Ir
end Go.Proofs.YtmnolnoeibhjgaaGreat
namespace Go.Proofs.YtmnolnoeibhjgaaGreat
open Go Ads
namespace Ads
theorem app_nilsG {s bytes n : Nat} {h : Heap} {x : AV} {cs : List AV} (hs : srcV s h x = some (n, cs)) (hf : flatL cs = true) (hn : n * bytes ≤ 140737488355328) (hm : n ≤ 140737488355328) :
  eV (.append s bytes) [.nils, x] h = some (if n = 0 then (.nils, h) else (.sl h.next 0 n n true, h.new (.cells cs true s))) := by
 have b2 : Nat.ble (n * bytes) 140737488355328 = true := Nat.ble_eq_true_of_le hn
 have b3 : Nat.ble n 9223372036854775807 = true := Nat.ble_eq_true_of_le (by omega)
 simp only [eV, l2, hs]
 show cond (flatL cs) _ _ = _
 rw [hf, cond_true]
 cases n with
 | zero => rfl
 | succ n =>
  rw [show Nat.beq (n + 1) 0 = false from rfl, cond_false, b2, b3, Bool.and_self, cond_true, if_neg (by omega)]
def GR (s : Nat) (lo : Nat) (h : Heap) (v : AV) (l : List AV) : Prop := (l = [] ∧ v = .nils) ∨ l ≠ [] ∧ ∃ b, lo ≤ b ∧ b < h.next ∧ v = .sl b 0 l.length l.length true ∧ h.get b = some (.cells (flatCells l) true s)
theorem GR.nil {s lo : Nat} {h : Heap} : GR s lo h .nils [] := .inl ⟨rfl, rfl⟩
theorem GR.keep {s lo : Nat} {h h' : Heap} {v : AV} {M : List AV} {T : List Nat} (hr : GR s lo h v M) (fr : Fr h h' T) (hT : ∀ c ∈ T, c < lo) : GR s lo h' v M := by
 rcases hr with hr | ⟨hne0, b, h1, h2, h3, h4⟩
 ·exact .inl hr
 ·exact .inr ⟨hne0, b, h1, Nat.lt_of_lt_of_le h2 fr.next, h3, by rw [fr.keep b h2 (fun hm => by have := hT b hm; omega)]; exact h4⟩
theorem GR.low {s lo lo' : Nat} {h : Heap} {v : AV} {M : List AV} (hr : GR s lo h v M) (hl : lo' ≤ lo) : GR s lo' h v M := by
 rcases hr with hr | ⟨hne0, b, h1, h2⟩
 ·exact .inl hr
 ·exact .inr ⟨hne0, b, Nat.le_trans hl h1, h2⟩
theorem GR.frz {s lo : Nat} {h : Heap} {v : AV} {M : List AV} (hr : GR s lo h v M) (hs : allSize s M = true) (hc : clL M = true) : ∃ bs : List Nat, Frz (· ∈ bs) h v (.fz (growK M.length) M) ∧ ∀ b ∈ bs, lo ≤ b := by
 rcases hr with ⟨rfl, rfl⟩ | ⟨hne0, b, h1, h2, rfl, h4⟩
 ·exact ⟨[], .nils, by simp⟩
 ·cases M with
  | nil => exact absurd rfl hne0
  | cons m M => exact ⟨[b], frz_open (by simp) h4 rfl hs rfl hc, by simpa using h1⟩
theorem GR.len {s lo : Nat} {h : Heap} {v : AV} {M : List AV} (hr : GR s lo h v M) : pV .lenS [v] = some (.int .i64 ((M.length : Nat) : Int)) := by
 rcases hr with ⟨rfl, rfl⟩ | ⟨hne0, b, h1, h2, rfl, h4⟩
 ·rfl
 ·rfl
theorem GR.app {s bytes lo : Nat} {h : Heap} {v : AV} {M : List AV} (hr : GR s lo h v M) (hlo : lo ≤ h.next) {x : AV} (hx : x.cells.length = s) (hf : flatL x.cells = true) (hs : allSize s M = true) (hl : (M.length + 1) * bytes ≤ 140737488355328) (hm : M.length + 1 ≤ 140737488355328) :
  ∃ v' g', eV (.append s bytes) [v, .sl h.next 0 1 1 false] (h.new (.cells x.cells true 0)) = some (v', g') ∧ GR s lo g' v' (M ++ [x]) ∧ h.next ≤ g'.next ∧ ∀ c, c < lo → g'.get c = h.get c := by
 have hsrc : srcV s (h.new (.cells x.cells true 0)) (.sl h.next 0 1 1 false) = some (1, x.cells) := src_nv get_new_same (by omega)
 have hfa : flatCells (M ++ [x]) = flatCells M ++ x.cells := by rw [flat_app]; simp [flatCells]
 rcases hr with ⟨h1, h2⟩ | ⟨hne0, b, h1, h2, h3, h4⟩
 ·subst h1 h2
  have := app_nilsG (bytes := bytes) hsrc hf (by simpa using hl) (by omega)
  rw [if_neg (by omega)] at this
  refine ⟨_, _, this, .inr ⟨by simp, h.next + 1, by omega, Nat.lt_succ_self _, rfl, ?_⟩, by show h.next ≤ h.next + 1 + 1; omega, fun c hc => ?_⟩
  ·rw [hfa]; exact get_new_same (h := h.new (.cells x.cells true 0))
  ·exact (get_new_ne (h := h.new (.cells x.cells true 0)) (show c < h.next + 1 by omega)).trans (get_new_ne (by omega))
 ·subst h3
  have hg : (h.new (.cells x.cells true 0)).get b = some (.cells (flatCells M) true s) := by rw [get_new_ne h2]; exact h4
  refine ⟨_, _, app_oneB hg (flat_size hs) hsrc hf hl hm, .inr ⟨by simp, h.next + 1, by omega, Nat.lt_succ_self _, by rw [List.length_append]; rfl, ?_⟩, by show h.next ≤ h.next + 1 + 1; omega, fun c hc => ?_⟩
  ·have := get_new_same (h := (h.new (.cells x.cells true 0)).del b) (x := .cells (flatCells M ++ x.cells) true s)
   rw [show ((h.new (.cells x.cells true 0)).del b).next = h.next + 1 from rfl] at this
   rw [this, hfa]
  ·have hne : c ≠ b := by omega
   exact (get_new_ne (h := (h.new (.cells x.cells true 0)).del b) (show c < h.next + 1 by omega)).trans ((get_del_ne2 hne).trans (get_new_ne (by omega)))
theorem GR.copy {s bytes lo k : Nat} {h : Heap} {M : List AV} (hlo : lo ≤ h.next) (hs : allSize s M = true) (hf : flatL (flatCells M) = true) (hl : M.length * bytes ≤ 140737488355328) (hm : M.length ≤ 140737488355328) :
  ∃ v' g', eV (.append s bytes) [.nils, .fz k M] h = some (v', g') ∧ GR s lo g' v' M ∧ Fr h g' [] := by
 have := app_nilsG (bytes := bytes) (src_fz (k := k) (h := h) hs) hf hl hm
 by_cases hz : M.length = 0
 ·rw [if_pos hz] at this
  exact ⟨_, _, this, .inl ⟨List.eq_nil_of_length_eq_zero hz, rfl⟩, Fr.refl _ _⟩
 ·rw [if_neg hz] at this
  exact ⟨_, _, this, .inr ⟨fun h => hz (by rw [h]; rfl), h.next, hlo, Nat.lt_succ_self _, rfl, get_new_same⟩, (Fr.refl _ _).new⟩
end Ads
end Go.Proofs.YtmnolnoeibhjgaaGreat
namespace Go.Proofs.YtmnolnoeibhjgaaGreat
open Go Ads
namespace Ads
def VX (fs : Nat → Option AFunc) (ms : Nat → String → Option Nat) (f : Nat) (args : List AV) (h : Heap) (Q R : AV → Heap → Prop) : Prop :=
 (∃ v h', (∀ B, VS fs ms B (.call f args h) (.val v h')) ∧ Q v h') ∨ ∃ v h', (∀ B, VS fs ms B (.call f args h) (.pan v h')) ∧ R v h'
section
variable {fs : Nat → Option AFunc} {ms : Nat → String → Option Nat} {B : Nat} {rd : Bool} {z : Bool}
theorem VX.of {f : Nat} {args : List AV} {h : Heap} {Q R : AV → Heap → Prop} (hd : VD fs ms f args h Q) : VX fs ms f args h Q R := .inl hd
theorem VX.mono {f : Nat} {args : List AV} {h : Heap} {Q R Q' R' : AV → Heap → Prop} (hx : VX fs ms f args h Q R) (hq : ∀ v h', Q v h' → Q' v h') (hr : ∀ v h', R v h' → R' v h') : VX fs ms f args h Q' R' :=
 hx.imp (fun ⟨v, h', a, b⟩ => ⟨v, h', a, hq v h' b⟩) (fun ⟨v, h', a, b⟩ => ⟨v, h', a, hr v h' b⟩)
def endX (rs : List RVar) (Q R : AV → Heap → Prop) : AX → Env → Heap → Prop := fun x e h => match x with
 | .normal | .ret => ∃ vs, resAllV e h rs = some vs ∧ Q (resVal vs) h
 | .panic v => R v h
 | _ => False
theorem vx_begin {f : Nat} {af : AFunc} {args : List AV} {h : Heap} {Q R : AV → Heap → Prop} (hf : fs f = some af) (hlen : args.length ≤ af.ntmps)
  (hw : startF af.ntmps args fun e => VC fs ms h.next false af.body e h (endX af.results Q R)) : VX fs ms f args h Q R := by
 rw [startF_eq] at hw
 obtain ⟨x, e1, h1, hb, hk⟩ := hw
 cases x with
 | normal => obtain ⟨vs, h2, h3⟩ := hk; exact .inl ⟨_, _, fun B => .call hf hlen hb (.inl rfl) h2, h3⟩
 | ret => obtain ⟨vs, h2, h3⟩ := hk; exact .inl ⟨_, _, fun B => .call hf hlen hb (.inr rfl) h2, h3⟩
 | exit i => exact hk.elim
 | panic v => exact .inr ⟨_, _, fun B => .callP hf hlen hb, hk⟩
def callK (fs : Nat → Option AFunc) (ms : Nat → String → Option Nat) (vals : List AV) (h : Heap) (Q R : AV → Heap → Prop) : Prop := match vals with
 | .func (.func f) first capt :: args => VX fs ms f (first ++ (args ++ capt)) h Q R
 | _ => False
theorem callK_elim {vals : List AV} {h : Heap} {Q R : AV → Heap → Prop} (hc : callK fs ms vals h Q R) :
  (∃ v h', (∀ B, VS fs ms B (.op rd .call vals h) (.val v h')) ∧ Q v h') ∨ ∃ v h', (∀ B, VS fs ms B (.op rd .call vals h) (.pan v h')) ∧ R v h' := by
 unfold callK at hc
 split at hc
 ·rcases hc with ⟨v, h1, a, b⟩ | ⟨v, h1, a, b⟩
  ·exact .inl ⟨v, h1, fun B => .opCall (.callv (a B)), b⟩
  ·exact .inr ⟨v, h1, fun B => .opCallP (.callvP (a B)), b⟩
 ·exact hc.elim
theorem vc_opsX {l l1 : List Ins} {d : Option Nat} {ags : List Rand} {e : Env} {h : Heap} {Q : AX → Env → Heap → Prop} (hl : lastI l = some (l1, ⟨d, none, .call, ags⟩))
  (hw : vpO fs ms z l1 e h fun e1 h1 => evsK e1 ags fun vals => callK fs ms vals h1 (fun v h2 => putE e1 d v fun e2 => Q .normal e2 h2) fun v h2 => Q (.panic v) e1 h2) : VC fs ms B rd (.ops l) e h Q := by
 have := lastI_eq hl
 subst this
 obtain ⟨tr, e1, h1, a, hk⟩ := vpO_sound (rd := rd) (B := B) hw
 obtain ⟨hj, hk⟩ := evsK_sound hk
 rcases callK_elim (rd := rd) hk with ⟨v, h2, b, hq⟩ | ⟨v, h2, b, hr⟩
 ·rw [putE_eq] at hq
  obtain ⟨tr3, hc⟩ := vs_app a (.on (i := ⟨d, none, .call, ags⟩) rfl hj (b B) .nil)
  exact ⟨_, _, _, .ops hc, hq⟩
 ·exact ⟨_, _, _, .opsP (i := ⟨d, none, .call, ags⟩) (l2 := []) a rfl hj (b B), hr⟩
theorem vc_panic {l l1 : List Ins} {d : Option Nat} {ags : List Rand} {e : Env} {h : Heap} {Q : AX → Env → Heap → Prop} (hl : lastI l = some (l1, ⟨d, none, .panic, ags⟩))
  (hw : vpO fs ms z l1 e h fun e1 h1 => evsK e1 ags fun vals => ∃ t x, vals = [.iface t x] ∧ x.pl = true ∧ Q (.panic (.iface t x)) e1 h1) : VC fs ms B rd (.ops l) e h Q := by
 have := lastI_eq hl
 subst this
 obtain ⟨tr, e1, h1, a, hk⟩ := vpO_sound (rd := rd) (B := B) hw
 obtain ⟨hj, t, x, h2, h3, hk⟩ := evsK_sound hk
 exact ⟨_, _, _, .opsP (i := ⟨d, none, .panic, ags⟩) (l2 := []) a rfl hj (h2 ▸ .opPanic h3), hk⟩
theorem vd_callD {f : Nat} {af : AFunc} {args : List AV} {h : Heap} {Q : AV → Heap → Prop} {A : AC} {l1 : List Ins} {dst : Option Nat} {r : Rand} {rest : AC} {g : Nat} {ag : AFunc} {t : Nat} {l2 : List Ins} {rest2 : AC} {first capt : List AV}
  (hf : fs f = some af) (hlen : args.length ≤ af.ntmps) (hbody : af.body = .seq A (.seq (.ops (l1 ++ [dferI dst r])) rest)) (hnr : noRange A = true)
  (hg : fs g = some ag) (hlen2 : (first ++ capt).length ≤ ag.ntmps) (hbody2 : ag.body = .seq (.ops (rcvI t :: l2)) rest2) (hres : ag.results = []) (hnr2 : noRange rest2 = true) (hpl : plainL l2 = true)
  (hw : startF af.ntmps args fun e => VC fs ms h.next false A e h fun x e1 h1 => x = .normal ∧ VO fs ms h.next false l1 e1 h1 fun e2 h2 => argsOk e2 [r] = true ∧ e2.ev r = .func (.func g) first capt ∧
   VC fs ms h2.next false rest (e2.put dst .undef) h2 fun x e3 h3 => (x = .normal ∨ x = .ret ∨ ∃ v, x = .panic v) ∧ (recV x).pl = true ∧ startF ag.ntmps (first ++ capt) fun e0 => VO fs ms h3.next false l2 (e0.put (some t) (recV x)) h3 fun e4 h4 => h4 = h3 ∧
    VC fs ms h3.next false rest2 e4 h3 fun y e5 h5 => (y = .normal ∨ y = .ret) ∧ ∃ vs, resAllV e3 h5 af.results = some vs ∧ Q (resVal vs) h5) : VD fs ms f args h Q := by
 simp only [startF_eq] at hw
 obtain ⟨x, e1, h1, a1, rfl, tr, e2, h2, a2, a3, a4, x3, e3, h3, a5, a6, a7, tr2, e4, h4, a8, rfl, y, e5, h5, a9, a10, vs, a11, a12⟩ := hw
 exact ⟨_, _, fun B => .callD hf hlen hbody a1 hnr a2 a3 a4 a5 a6 a7 hg hlen2 hbody2 hres hnr2 a8 hpl a9 a10 a11, a12⟩
end
end Ads
end Go.Proofs.YtmnolnoeibhjgaaGreat
