/-
  Rows in blocks: filled from the front, grown by append.
-/
import Derived.Test.YtepdklcpagielaaVsLoop
import Derived.KernelRfl
set_option maxRecDepth 100000
set_option linter.unusedSimpArgs false
set_option linter.unusedVariables false
namespace Go.Proofs.Ytepdklcpagielaa
open Go Ads
namespace Ads

theorem quo_val {k : IntKind} (a b : Int) (hb : b ≠ 0) : pV (.bin .quo) [.int k a, .int k b] = some (.int k (k.wrap (a.tdiv b))) := by
 simp [pV, pIF, l2, binF, dInt, isShift, binInt, hb]
theorem frz_open {P : Nat → Prop} {g : Heap} {b n s : Nat} {l vs : List AV} {wr : Bool} {es : Nat} (hb : P b) (hg : g.get b = some (.cells vs wr es)) (hv : vs = flatCells l) (hs : allSize s l = true) (hn : n = l.length) (hcl : clL l = true) :
  Frz P g (.sl b 0 n n true) (.fz 0 l) :=
 .row (s := s) hb hg hv hs hn (Nat.le_refl _) (by omega) (fun h => by omega) (fun h => by omega) hcl

theorem renAt_sl {p : Nat → Nat} {n : Nat} {e : Env} {i b o len cap : Nat} {op : Bool} {l : List (Nat × AV)} (h : Tr.get e i = some (.sl (p b) o len cap op)) (hb : b < n) (hl : RenAt p n e l) : RenAt p n e ((i, .sl b o len cap op) :: l) := ⟨⟨_, h, .sl hb⟩, hl⟩

section
variable {fs : Nat → Option AFunc} {ms : Nat → String → Option Nat} {B : Nat} {rd : Bool}
theorem vd_begin {f : Nat} {af : AFunc} {args : List AV} {h : Heap} {Q : AV → Heap → Prop} (hf : fs f = some af) (hlen : args.length ≤ af.ntmps)
  (hw : startF af.ntmps args fun e => VC fs ms h.next false af.body e h (endV af.results Q)) : VD fs ms f args h Q := by
 rw [startF_eq] at hw
 exact vd_body hf hlen hw
theorem vc_seq {a b : AC} {e : Env} {h : Heap} {Q : AX → Env → Heap → Prop} (z : Bool)
  (hw : vpC fs ms B rd z a e h fun x e1 h1 => match x with | .normal => VC fs ms B rd b e1 h1 Q | x => Q x e1 h1) : VC fs ms B rd (.seq a b) e h Q := by
 obtain ⟨x, e1, h1, hb, hk⟩ := vpC_sound hw
 cases x with
 | normal =>
  obtain ⟨x2, e2, h2, hb2, hk2⟩ := hk
  exact ⟨_, _, _, .seqN hb hb2, hk2⟩
 | exit i => exact ⟨_, _, _, .seqX hb rfl, hk⟩
 | ret => exact ⟨_, _, _, .seqX hb rfl, hk⟩
 | panic v => exact ⟨_, _, _, .seqX hb rfl, hk⟩
end

theorem brt {c : Bool} {A B : Prop} (hc : c = true) (h : c = true → A) : brn c A B := br h (fun h2 => by rw [hc] at h2; exact absurd h2 (by decide))
theorem brf {c : Bool} {A B : Prop} (hc : c = false) (h : c = false → B) : brn c A B := br (fun h2 => by rw [hc] at h2; exact absurd h2 (by decide)) h
theorem renAt_ptr {p : Nat → Nat} {n : Nat} {e : Env} {i b o : Nat} {l : List (Nat × AV)} (h : Tr.get e i = some (.ptr (p b) o)) (hb : b < n) (hl : RenAt p n e l) : RenAt p n e ((i, .ptr b o) :: l) := ⟨⟨_, h, .ptr hb⟩, hl⟩
theorem renAt_yield {p : Nat → Nat} {n : Nat} {e : Env} {i b : Nat} {l : List (Nat × AV)} (h : Tr.get e i = some (.yield (p b))) (hb : b < n) (hl : RenAt p n e l) : RenAt p n e ((i, .yield b) :: l) := ⟨⟨_, h, .yield hb⟩, hl⟩

/- A row that grows by append, one at a time. -/
def growK : Nat → Nat
 | 0 => 3
 | _ + 1 => 0

theorem app_nilsS {s bytes nx : Nat} {tr : Tr Blk} {x : AV} {cs : List AV} (hb : bytes ≤ 1048576) (hs : srcV s ⟨nx, tr⟩ x = some (1, cs)) (hf : flatL cs = true) :
  eV (.append s bytes) [.nils, x] ⟨nx, tr⟩ = some (.sl nx 0 1 1 true, ⟨nx + 1, Tr.set tr nx (.cells cs true s)⟩) := by
 have b2 : Nat.ble (1 * bytes) 140737488355328 = true := Nat.ble_eq_true_of_le (by omega)
 simp only [eV, l2, hs]
 show cond (flatL cs) _ _ = _
 rw [hf, cond_true]
 show cond (Nat.ble (1 * bytes) 140737488355328 && true) _ _ = _
 rw [b2]
 rfl

/- A row of numbers that is filled from the front. -/
end Ads
end Go.Proofs.Ytepdklcpagielaa
