/-
  What code must come to in Vs, as a proposition that is worked out from the code.
-/
import Derived.Test.YtfadblhkbopfjaaVsSim
import Derived.Test.YtfadblhkbopfjaaAdsEvalX
set_option linter.unusedSimpArgs false
set_option linter.unusedVariables false
namespace Go.Proofs.Ytfadblhkbopfjaa
namespace Ads

abbrev opn {α : Type} (o : Option α) (k : α → Prop) : Prop := @Option.rec α (fun _ => Prop) False k o
section
variable (fs : Nat → Option AFunc) (ms : Nat → String → Option Nat) (B : Nat) (rd : Bool) (z : Bool)

def VC (c : AC) (e : Env) (h : Heap) (Q : AX → Env → Heap → Prop) : Prop := ∃ x e' h', VS fs ms B (.code rd c e h) (.code x e' h') ∧ Q x e' h'
def VD (f : Nat) (args : List AV) (h : Heap) (Q : AV → Heap → Prop) : Prop := ∃ v h', (∀ B, VS fs ms B (.call f args h) (.val v h')) ∧ Q v h'

end

section
variable {fs : Nat → Option AFunc} {ms : Nat → String → Option Nat} {B : Nat} {rd : Bool} {z : Bool}

theorem VD.mono {f : Nat} {args : List AV} {h : Heap} {Q Q' : AV → Heap → Prop} (hc : VD fs ms f args h Q) (hq : ∀ v h', Q v h' → Q' v h') : VD fs ms f args h Q' := by
 obtain ⟨v, h', hb, hk⟩ := hc
 exact ⟨v, h', hb, hq v h' hk⟩
theorem VC.mono {c : AC} {e : Env} {h : Heap} {Q Q' : AX → Env → Heap → Prop} (hc : VC fs ms B rd c e h Q) (hq : ∀ x e' h', Q x e' h' → Q' x e' h') : VC fs ms B rd c e h Q' := by
 obtain ⟨x, e', h', hb, hk⟩ := hc
 exact ⟨x, e', h', hb, hq x e' h' hk⟩

def PC (fs : Nat → Option AFunc) (ms : Nat → String → Option Nat) (f : Nat) (args : List AV) (v : AV) : Prop :=
 clL args = true ∧ v.cl = true ∧ VD fs ms f args ⟨0, .nil⟩ fun u g => Frz (fun _ => True) g u v

theorem frz_pl {P : Nat → Prop} {g : Heap} {v v' : AV} (f : Frz P g v v') : v'.pl = true → v = v' := by
 induction f with
 | clean _ => intro _; rfl
 | agg h1 _ ih =>
  intro hp
  simp only [AV.pl] at hp
  rename_i cs cs' _
  congr 1
  refine List.ext_getElem? fun i => ?_
  cases hx : cs'[i]? with
  | none => rw [List.getElem?_eq_none (by rw [h1]; exact List.getElem?_eq_none_iff.1 hx)]
  | some x =>
   have hl := (List.getElem?_eq_some_iff.1 hx).1
   have hy := List.getElem?_eq_getElem (l := cs) (i := i) (by rw [h1]; exact hl)
   rw [hy, ih i _ x hy hx (plL_get hp hx)]
 | tup h1 _ ih =>
  intro hp
  simp only [AV.pl] at hp
  rename_i cs cs' _
  congr 1
  refine List.ext_getElem? fun i => ?_
  cases hx : cs'[i]? with
  | none => rw [List.getElem?_eq_none (by rw [h1]; exact List.getElem?_eq_none_iff.1 hx)]
  | some x =>
   have hl := (List.getElem?_eq_some_iff.1 hx).1
   have hy := List.getElem?_eq_getElem (l := cs) (i := i) (by rw [h1]; exact hl)
   rw [hy, ih i _ x hy hx (plL_get hp hx)]
 | iface _ ih => intro hp; rw [ih (by simpa [AV.pl] using hp)]
 | nils => intro hp; simp [AV.pl] at hp
 | sl => intro hp; simp [AV.pl] at hp
 | ptr => intro hp; simp [AV.pl] at hp
 | func h1 _ h2 _ ih1 ih2 =>
  intro hp
  simp only [AV.pl, Bool.and_eq_true] at hp
  rename_i fn a a' c c' _ _
  congr 1
  ·refine List.ext_getElem? fun i => ?_
   cases hx : a'[i]? with
   | none => rw [List.getElem?_eq_none (by rw [h1]; exact List.getElem?_eq_none_iff.1 hx)]
   | some x =>
    have hl := (List.getElem?_eq_some_iff.1 hx).1
    have hy := List.getElem?_eq_getElem (l := a) (i := i) (by rw [h1]; exact hl)
    rw [hy, ih1 i _ x hy hx (plL_get hp.1.1 hx)]
  ·refine List.ext_getElem? fun i => ?_
   cases hx : c'[i]? with
   | none => rw [List.getElem?_eq_none (by rw [h2]; exact List.getElem?_eq_none_iff.1 hx)]
   | some x =>
    have hl := (List.getElem?_eq_some_iff.1 hx).1
    have hy := List.getElem?_eq_getElem (l := c) (i := i) (by rw [h2]; exact hl)
    rw [hy, ih2 i _ x hy hx (plL_get hp.1.2 hx)]

theorem FrzL.nil {P : Nat → Prop} {g : Heap} : FrzL P g [] [] := ⟨rfl, fun i x y hx => by simp at hx⟩
theorem FrzL.cons {P : Nat → Prop} {g : Heap} {x y : AV} {l m : List AV} (h1 : Frz P g x y) (h2 : FrzL P g l m) : FrzL P g (x :: l) (y :: m) := by
 refine ⟨by simp [h2.1], fun i a b ha hb => ?_⟩
 cases i with
 | zero => simp at ha hb; subst ha hb; exact h1
 | succ i => exact h2.2 i a b (by simpa using ha) (by simpa using hb)
theorem FrzL.clean {P : Nat → Prop} {g : Heap} {l : List AV} (h : clL l = true) : FrzL P g l l :=
 ⟨rfl, fun i x y hx hy => by rw [hx] at hy; cases hy; exact .clean (clL_get h hx)⟩
theorem Frz.row {P : Nat → Prop} {g : Heap} {b len cap k s : Nat} {op : Bool} {l vs : List AV} {wr : Bool} {es : Nat} (hb : P b) (hg : g.get b = some (.cells vs wr es)) (hv : vs = flatCells l) (hs : allSize s l = true)
  (hlen : len = l.length) (hcap : len ≤ cap) (hk : k ≤ 2) (h1 : 1 ≤ k → op = false) (h2 : 2 ≤ k → cap = len) (hcl : clL l = true) : Frz P g (.sl b 0 len cap op) (.fz k l) := by
 subst hv
 have hf := flat_get hs
 refine .sl hb hg hs hlen (by rw [hf.1]; simp) hcap hk h1 h2 ?_
 intro i x j c y hx hc hy
 rw [Nat.zero_add] at hy
 obtain ⟨i', x', j', a1, a2, a3⟩ := hf.2 _ _ hy
 have e1 := allSize_get hs hx
 have e2 := allSize_get hs a1
 have l1 := (List.getElem?_eq_some_iff.1 hc).1
 have l2 := (List.getElem?_eq_some_iff.1 a2).1
 have hsp : 0 < s := by omega
 have hi : i = i' := by
  have q1 : (i * s + j) / s = i := by rw [Nat.mul_comm, Nat.mul_add_div hsp, Nat.div_eq_of_lt (by omega)]; omega
  have q2 : (i' * s + j') / s = i' := by rw [Nat.mul_comm, Nat.mul_add_div hsp, Nat.div_eq_of_lt (by omega)]; omega
  rw [← q1, a3, q2]
 subst hi
 have hj : j = j' := by omega
 subst hj
 rw [hx] at a1
 cases a1
 rw [hc] at a2
 cases a2
 exact .clean (clL_get (cells_cl (clL_get hcl hx)) hc)

/- Slots and heaps, written out. -/
def hk (n : Nat) (l : List (Nat × Blk)) : Heap := ⟨n, l.foldr (fun p t => Tr.set t p.1 p.2) .nil⟩

end
end Ads
end Go.Proofs.Ytfadblhkbopfjaa
