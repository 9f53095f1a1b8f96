/-
  Rows in blocks: filled from the front, grown by append. What values of struct types are. Rows that grow while another one grows: three blocks, of which some may be missing. Rows that lie at a block's start, with room behind them. Small helpers of the document's answers: EqInts, CopyInts, Bring. Heaps of eight blocks, of which some may be missing. Heaps that are not known but for some blocks: how operations read and write them. Rank: ids with their keys, as cells; ahead, lay. Stops inside regions, loops and tests.
-/
import Derived.Test.YtmnolnoeibhjgaaGreatVsLoop
import Derived.KernelRfl
import Derived.Test.YtmnolnoeibhjgaaGreatVsLaw
import Derived.Test.YtmnolnoeibhjgaaGreatVsTop
import Derived.Test.YtmnolnoeibhjgaaGreatIrLink
set_option maxRecDepth 100000
set_option linter.unusedSimpArgs false
set_option linter.unusedVariables false
namespace Go.Proofs.YtmnolnoeibhjgaaGreat
theorem yB {a b : Nat} (h : Nat.ble a b = true) : a ≤ b := Nat.le_of_ble_eq_true h
end Go.Proofs.YtmnolnoeibhjgaaGreat
namespace Go.Proofs.YtmnolnoeibhjgaaGreat
open Go Ads
namespace Ads

theorem frz_open {P : Nat → Prop} {g : Heap} {b n s : Nat} {l vs : List AV} {wr : Bool} {es : Nat} (hb : P b) (hg : g.get b = some (.cells vs wr es)) (hv : vs = flatCells l) (hs : allSize s l = true) (hn : n = l.length) (hcl : clL l = true) :
  Frz P g (.sl b 0 n n true) (.fz 0 l) :=
 .row (s := s) hb hg hv hs hn (Nat.le_refl _) (by omega) (fun h => by omega) (fun h => by omega) hcl

section
variable {fs : Nat → Option AFunc} {ms : Nat → String → Option Nat} {B : Nat} {rd : Bool}
theorem vd_begin {f : Nat} {af : AFunc} {args : List AV} {h : Heap} {Q : AV → Heap → Prop} (hf : fs f = some af) (hlen : args.length ≤ af.ntmps)
  (hw : startF af.ntmps args fun e => VC fs ms h.next false af.body e h (endV af.results Q)) : VD fs ms f args h Q := by
 rw [startF_eq] at hw
 exact vd_body hf hlen hw
theorem vc_seq {a b : AC} {e : Env} {h : Heap} {Q : AX → Env → Heap → Prop} (z : Bool)
  (hw : vpC fs ms B rd z a e h fun x e1 h1 => match x with | .normal => VC fs ms B rd b e1 h1 Q | x => Q x e1 h1) : VC fs ms B rd (.seq a b) e h Q := by
 obtain ⟨x, e1, h1, hb, hk⟩ := vpC_sound hw
 cases x with
 | normal =>
  obtain ⟨x2, e2, h2, hb2, hk2⟩ := hk
  exact ⟨_, _, _, .seqN hb hb2, hk2⟩
 | exit i => exact ⟨_, _, _, .seqX hb rfl, hk⟩
 | ret => exact ⟨_, _, _, .seqX hb rfl, hk⟩
 | panic v => exact ⟨_, _, _, .seqX hb rfl, hk⟩
end

theorem brt {c : Bool} {A B : Prop} (hc : c = true) (h : c = true → A) : brn c A B := br h (fun h2 => by rw [hc] at h2; exact absurd h2 (by decide))
theorem brf {c : Bool} {A B : Prop} (hc : c = false) (h : c = false → B) : brn c A B := br (fun h2 => by rw [hc] at h2; exact absurd h2 (by decide)) h
def growK : Nat → Nat
 | 0 => 3
 | _ + 1 => 0

theorem splice_at {α : Type} : ∀ (l : List α) (o : Nat) (x : α), o < l.length → Heap.splice l o [x] = l.set o x
 | [], o, x, h => by simp at h
 | y :: l, 0, x, h => by
  show x :: Heap.splice l 0 [] = _
  have : Heap.splice l 0 [] = l := by cases l <;> rfl
  rw [this]; rfl
 | y :: l, o + 1, x, h => by
  show y :: Heap.splice l o [x] = _
  rw [splice_at l o x (by simpa using h)]; rfl

end Ads
end Go.Proofs.YtmnolnoeibhjgaaGreat
namespace Go.Proofs.YtmnolnoeibhjgaaGreat
open Go
namespace Ads
section
variable {P : Program}

end
end Ads
end Go.Proofs.YtmnolnoeibhjgaaGreat
namespace Go.Proofs.YtmnolnoeibhjgaaGreat
open Go Ads
namespace Ads

section
variable {fs : Nat → Option AFunc} {ms : Nat → String → Option Nat} {rd : Bool}
theorem vc_seqV {B : Nat} {a b : AC} {e : Env} {h : Heap} {Q : AX → Env → Heap → Prop}
  (hw : VC fs ms B rd a e h fun x e1 h1 => match x with | .normal => VC fs ms B rd b e1 h1 Q | x => Q x e1 h1) : VC fs ms B rd (.seq a b) e h Q := by
 obtain ⟨x, e1, h1, hb, hk⟩ := hw
 cases x with
 | normal =>
  obtain ⟨x2, e2, h2, hb2, hk2⟩ := hk
  exact ⟨_, _, _, .seqN hb hb2, hk2⟩
 | exit i => exact ⟨_, _, _, .seqX hb rfl, hk⟩
 | ret => exact ⟨_, _, _, .seqX hb rfl, hk⟩
 | panic v => exact ⟨_, _, _, .seqX hb rfl, hk⟩
theorem vc_block {B id : Nat} {c : AC} {e : Env} {h : Heap} {Q : AX → Env → Heap → Prop}
  (hw : VC fs ms B rd c e h fun x e1 h1 => match x with | .exit i => (if i = id then Q .normal e1 h1 else Q (.exit i) e1 h1) | x => Q x e1 h1) : VC fs ms B rd (.block id c) e h Q := by
 obtain ⟨x, e1, h1, hb, hk⟩ := hw
 cases x with
 | normal => exact ⟨_, _, _, .blockN hb (by intro i hi; cases hi), hk⟩
 | exit i =>
  by_cases hi : i = id
  ·subst hi
   simp only [if_true] at hk
   exact ⟨_, _, _, .blockX hb, hk⟩
  ·simp only [hi, if_false] at hk
   exact ⟨_, _, _, .blockN hb (by intro i2 hi2; cases hi2; exact hi), hk⟩
 | ret => exact ⟨_, _, _, .blockN hb (by intro i hi; cases hi), hk⟩
 | panic v => exact ⟨_, _, _, .blockN hb (by intro i hi; cases hi), hk⟩
end

theorem flat_size : ∀ {l : List AV} {s : Nat}, allSize s l = true → (flatCells l).length = l.length * s
 | [], s, _ => by simp [flatCells]
 | x :: l, s, h => by
  simp only [allSize, Bool.and_eq_true] at h
  have := Nat.eq_of_beq_eq_true h.1
  show (x.cells ++ flatCells l).length = _
  rw [List.length_append, flat_size h.2, List.length_cons, this, Nat.succ_mul]
  omega
theorem flat_app : ∀ (l m : List AV), flatCells (l ++ m) = flatCells l ++ flatCells m
 | [], m => rfl
 | x :: l, m => by
  show x.cells ++ flatCells (l ++ m) = (x.cells ++ flatCells l) ++ flatCells m
  rw [flat_app l m, List.append_assoc]
theorem app_lit {s bytes nx n : Nat} {tr : Tr Blk} {b : Nat} {x : AV} {cs : List AV} {wr : Bool} {es : Nat} (hg : Heap.get ⟨nx, tr⟩ b = some (.cells [] wr es)) (hb : bytes ≤ 1048576) (hn : n ≤ 1048576) (hs : srcV s ⟨nx, tr⟩ x = some (n + 1, cs)) (hf : flatL cs = true) :
  eV (.append s bytes) [.sl b 0 0 0 false, x] ⟨nx, tr⟩ = some (.sl nx 0 (n + 1) (n + 1) true, ⟨nx + 1, Tr.set tr nx (.cells cs true s)⟩) := by
 have hl : Heap.loadN ⟨nx, tr⟩ b 0 (0 * s) = some [] := by
  rw [loadN_some hg (by simp)]
  simp
 have hm : (n + 1) * bytes ≤ 1048577 * 1048576 := Nat.mul_le_mul (by omega) hb
 have b2 : Nat.ble ((0 + (n + 1)) * bytes) 140737488355328 = true := Nat.ble_eq_true_of_le (by rw [Nat.zero_add]; omega)
 have b3 : Nat.ble (0 + (n + 1)) 9223372036854775807 = true := Nat.ble_eq_true_of_le (by omega)
 have b4 : Nat.beq (n + 1) 0 = false := rfl
 have b1 : Nat.ble (0 + (n + 1)) 0 = false := by
  cases hb : Nat.ble (0 + (n + 1)) 0 with
  | false => rfl
  | true => have := Nat.le_of_ble_eq_true hb; omega
 simp only [eV, l2, hs]
 show cond (flatL cs) _ _ = _
 rw [hf, cond_true, b4, Bool.false_and, cond_false, b1, cond_false, b2, b3, Bool.and_self, cond_true, hg, hl]
 simp only [cond_false, Nat.zero_add]
 rfl
theorem src_fz {s k : Nat} {l : List AV} {h : Heap} (hs : allSize s l = true) : srcV s h (.fz k l) = some (l.length, flatCells l) := by
 simp only [srcV, hs, cond_true]
end Ads
end Go.Proofs.YtmnolnoeibhjgaaGreat
namespace Go.Proofs.YtmnolnoeibhjgaaGreat
open Go Ads
namespace Ads

end Ads
end Go.Proofs.YtmnolnoeibhjgaaGreat
namespace Go.Proofs.YtmnolnoeibhjgaaGreat
open Go Ads
namespace Ir

end Ir
end Go.Proofs.YtmnolnoeibhjgaaGreat
namespace Go.Proofs.YtmnolnoeibhjgaaGreat
open Go Ads
namespace Ads

end Ads
end Go.Proofs.YtmnolnoeibhjgaaGreat
namespace Go.Proofs.YtmnolnoeibhjgaaGreat
open Go Ads
namespace Ads

theorem sto_o {h : Heap} {b o n es : Nat} {vs : List AV} {v : AV} (hg : h.get b = some (.cells vs true es)) (hn : v.cells.length = n) (hl : o + n ≤ vs.length) (hf : flatL v.cells = true) :
  eV (.store n) [.ptr b o, v] h = some (.undef, h.set b (.cells (Heap.splice vs o v.cells) true es)) := by
 have b1 : Nat.beq v.cells.length n = true := by rw [hn]; exact Nat.beq_refl n
 have b2 : Nat.ble (o + v.cells.length) vs.length = true := Nat.ble_eq_true_of_le (by omega)
 show cond (Nat.beq v.cells.length n) ((h.storeN b o v.cells).map fun h => (AV.undef, h)) none = _
 rw [b1, cond_true]
 simp only [Heap.storeN, hg, b2, hf, Bool.and_self, cond_true]
 rfl
theorem get_set_o {h : Heap} {b c : Nat} {x : Blk} : (h.set b x).get c = if c = b then some x else h.get c := Tr.get_set _ _ _ _
theorem get_set_same {h : Heap} {b : Nat} {x : Blk} : (h.set b x).get b = some x := by rw [get_set_o, if_pos rfl]
theorem get_set_ne {h : Heap} {b c : Nat} {x : Blk} (hn : c ≠ b) : (h.set b x).get c = h.get c := by rw [get_set_o, if_neg hn]
theorem get_new_same {h : Heap} {x : Blk} : (h.new x).get h.next = some x := by rw [Heap.get_new, if_pos rfl]
theorem get_new_ne {h : Heap} {c : Nat} {x : Blk} (hn : c < h.next) : (h.new x).get c = h.get c := by rw [Heap.get_new, if_neg (by omega)]
structure Fr (h h' : Heap) (bs : List Nat) : Prop where
 next : h.next ≤ h'.next
 keep : ∀ b, b < h.next → b ∉ bs → h'.get b = h.get b
theorem Fr.refl (h : Heap) (bs : List Nat) : Fr h h bs := ⟨Nat.le_refl _, fun _ _ _ => rfl⟩
theorem Fr.trans {h h1 h2 : Heap} {bs : List Nat} (a : Fr h h1 bs) (b : Fr h1 h2 bs) : Fr h h2 bs := ⟨Nat.le_trans a.next b.next, fun c hc hn => (b.keep c (Nat.lt_of_lt_of_le hc a.next) hn).trans (a.keep c hc hn)⟩
theorem Fr.set {h h1 : Heap} {bs : List Nat} {b : Nat} {x : Blk} (a : Fr h h1 bs) (hb : b ∈ bs) : Fr h (h1.set b x) bs := ⟨a.next, fun c hc hn => by rw [get_set_ne (by intro e; subst e; exact hn hb)]; exact a.keep c hc hn⟩
theorem Fr.new {h h1 : Heap} {bs : List Nat} {x : Blk} (a : Fr h h1 bs) : Fr h (h1.new x) bs := ⟨Nat.le_succ_of_le a.next, fun c hc hn => by rw [get_new_ne (Nat.lt_of_lt_of_le hc a.next)]; exact a.keep c hc hn⟩
theorem Fr.setn {h h1 : Heap} {bs : List Nat} {b : Nat} {x : Blk} (a : Fr h h1 bs) (hb : h.next ≤ b) : Fr h (h1.set b x) bs := ⟨a.next, fun c hc hn => by rw [get_set_ne (by omega)]; exact a.keep c hc hn⟩
end Ads
namespace Ir

abbrev Id := Nat × Int
def ob (x : Id) : AV := .agg [.int .i64 (x.1 : Nat), .int .i64 x.2]
def obs (L : List Id) : List AV := L.map ob
def oc (L : List Id) : List AV := flatCells (obs L)
def plc (P : Nat → Nat) : List AV := (List.range 64).map fun i => .int .i64 ((P i : Nat) : Int)
def upd (P : Nat → Nat) (i v : Nat) : Nat → Nat := fun j => if j = i then v else P j
structure HAt (h : Heap) (p r cap : Nat) (op : Bool) (L : List Id) (P : Nat → Nat) (rest : List AV) : Prop where
 hp : h.get p = some (.cells (.sl r 0 L.length cap op :: plc P) true 0)
 hr : h.get r = some (.cells (oc L ++ rest) true 2)
 ne : p ≠ r
 lp : p < h.next
 lr : r < h.next

end Ir
end Go.Proofs.YtmnolnoeibhjgaaGreat
namespace Go.Proofs.YtmnolnoeibhjgaaGreat
open Go Ads
namespace Ads
theorem vc_loopV {fs : Nat → Option AFunc} {ms : Nat → String → Option Nat} {B : Nat} {rd : Bool} {c : AC} {e : Env} {h : Heap} {Q : AX → Env → Heap → Prop}
  (hw : VC fs ms B rd c e h fun x e1 h1 => match x with | .normal => VC fs ms B rd (.loop c) e1 h1 Q | x => Q x e1 h1) : VC fs ms B rd (.loop c) e h Q := by
 obtain ⟨x, e1, h1, hb, hk⟩ := hw
 cases x with
 | normal =>
  obtain ⟨x2, e2, h2, hb2, hk2⟩ := hk
  exact ⟨_, _, _, .loopN hb hb2, hk2⟩
 | exit i => exact ⟨_, _, _, .loopX hb rfl, hk⟩
 | ret => exact ⟨_, _, _, .loopX hb rfl, hk⟩
 | panic v => exact ⟨_, _, _, .loopX hb rfl, hk⟩
theorem eff_o {o : EOp} {args : List AV} {h h' : Heap} {v : AV} {k : AV → Heap → Prop} (hs : eV o args h = some (v, h')) (hq : ∀ h1, h1 = h' → k v h1) : ∃ v h1, eV o args h = some (v, h1) ∧ k v h1 := ⟨v, h', hs, hq h' rfl⟩
section
variable {fs : Nat → Option AFunc} {ms : Nat → String → Option Nat} {B : Nat} {rd : Bool}
theorem vs_app : ∀ {l1 l2 : List Ins} {e : Env} {h : Heap} {tr e1 h1 tr2 e2 h2}, VS fs ms B (.ops rd l1 e h) (.ops tr e1 h1) → VS fs ms B (.ops rd l2 e1 h1) (.ops tr2 e2 h2) → ∃ tr3, VS fs ms B (.ops rd (l1 ++ l2) e h) (.ops tr3 e2 h2)
 | [], l2, e, h, tr, e1, h1, tr2, e2, h2, a, b => by
  cases a
  exact ⟨_, b⟩
 | i :: l1, l2, e, h, tr, e1, h1, tr2, e2, h2, a, b => by
  cases a with
  | off hw ha =>
   obtain ⟨tr3, hc⟩ := vs_app ha b
   exact ⟨_, .off hw hc⟩
  | on hw ho hv ha =>
   obtain ⟨tr3, hc⟩ := vs_app ha b
   exact ⟨_, .on hw ho hv hc⟩
theorem VO.mono {l : List Ins} {e : Env} {h : Heap} {K K' : Env → Heap → Prop} (hc : VO fs ms B rd l e h K) (hq : ∀ e' h', K e' h' → K' e' h') : VO fs ms B rd l e h K' := by
 obtain ⟨tr, e', h', hb, hk⟩ := hc
 exact ⟨tr, e', h', hb, hq e' h' hk⟩
theorem vc_condV {c : Rand} {a b : AC} {e : Env} {h : Heap} {Q : AX → Env → Heap → Prop} (hw : evK e c fun v => match v with | .bool t => brn t (VC fs ms B rd a e h Q) (VC fs ms B rd b e h Q) | _ => False) : VC fs ms B rd (.cond c a b) e h Q := by
 obtain ⟨ha, hw⟩ := evK_sound hw
 split at hw
 ·rename_i t ht
  rcases brn_elim hw with ⟨rfl, h2⟩ | ⟨rfl, h2⟩
  ·obtain ⟨x, e1, h1, hb, hk⟩ := h2
   exact ⟨_, _, _, .cond ha ht hb, hk⟩
  ·obtain ⟨x, e1, h1, hb, hk⟩ := h2
   exact ⟨_, _, _, .cond ha ht hb, hk⟩
 ·exact hw.elim
end
end Ads
end Go.Proofs.YtmnolnoeibhjgaaGreat
