/-
  Judge: the closed statement JudgeKnown.
-/
import Derived.Test.YtepdklcpagielaaVJgJ
import Derived.Test.YtepdklcpagielaaVJdD
set_option maxRecDepth 100000
set_option linter.unusedSimpArgs false
set_option linter.unusedVariables false
namespace Go.Proofs.Ytepdklcpagielaa
open Go Ads
namespace Ads
theorem vo_opK {fs : Nat → Option AFunc} {ms : Nat → String → Option Nat} {B : Nat} {rd : Bool} {l : List Ins} {e : Env} {h h1 : Heap} {K : Env → Heap → Prop} {d a c gs s b : Nat} {want : Bool} {va vc v : AV}
  (hg : Tr.get e gs = some (.bool want)) (ha : Tr.get e a = some va) (hc : Tr.get e c = some vc) (hv : eKV (.append s b) [va, vc] h = some (v, h1)) (hw : VO fs ms B rd l (Env.put e (some d) v) h1 K) :
  VO fs ms B rd (⟨some d, some (gs, want), .e (.append s b), [.t a, .t c]⟩ :: l) e h K := by
 obtain ⟨tr, e', h', hb, hk⟩ := hw
 refine ⟨_, e', h', .on (by simp [wantedV, hg]) (by simp [argsOk, ha, hc]) (.opK ?_) hb, hk⟩
 show eKV (.append s b) [e.get a, e.get c] h = _
 rw [show e.get a = va by simp [Env.get, ha], show e.get c = vc by simp [Env.get, hc]]
 exact hv
theorem appK_open {h : Heap} {s bytes b m n : Nat} {vs cs : List AV} {x : AV} (hg : h.get b = some (.cells vs true s)) (hv : vs.length = m * s) (hsrc : srcV s h x = some (n + 1, cs)) (hf : flatL cs = true) (hb : (m + (n + 1)) * bytes ≤ 140737488355328) (hm : m + (n + 1) ≤ 140737488355328) :
  eKV (.append s bytes) [.sl b 0 m m true, x] h = some (.sl h.next 0 (m + (n + 1)) (m + (n + 1)) true, (h.set b (.cells vs false s)).new (.cells (vs ++ cs) false s)) := by
 have b2 : Nat.ble ((m + (n + 1)) * bytes) 140737488355328 = true := Nat.ble_eq_true_of_le hb
 have b3 : Nat.ble (m + (n + 1)) 9223372036854775807 = true := Nat.ble_eq_true_of_le (by omega)
 have b4 : Nat.ble (0 + m * s) vs.length = true := Nat.ble_eq_true_of_le (by omega)
 have b5 : Nat.beq vs.length (0 + m * s) = true := by rw [hv, Nat.zero_add]; exact Nat.beq_refl _
 have hld : h.loadN b 0 (m * s) = some vs := by
  simp only [Heap.loadN, Heap.row, hg, b4, cond_true, List.drop_zero]
  rw [← hv, List.take_length]
 simp only [eKV, hsrc, hg, hld]
 rw [hf, b2, b3, b5, Nat.beq_refl, Nat.beq_refl]
 rfl
theorem app_bl {s bytes n : Nat} {h : Heap} {b : Nat} {x : AV} {cs : List AV} {wr : Bool} {es : Nat} (hg : h.get b = some (.cells [] wr es)) (hs : srcV s h x = some (n + 1, cs)) (hf : flatL cs = true) (hb : (n + 1) * bytes ≤ 140737488355328) (hn : n + 1 ≤ 140737488355328) :
  eV (.append s bytes) [.sl b 0 0 0 false, x] h = some (.sl h.next 0 (n + 1) (n + 1) true, h.new (.cells cs true s)) := by
 have b2 : Nat.ble ((0 + (n + 1)) * bytes) 140737488355328 = true := Nat.ble_eq_true_of_le (by rw [Nat.zero_add]; exact hb)
 have b3 : Nat.ble (0 + (n + 1)) 9223372036854775807 = true := Nat.ble_eq_true_of_le (by omega)
 have hld : h.loadN b 0 (0 * s) = some [] := by
  rw [Nat.zero_mul]
  simp only [Heap.loadN, Heap.row, hg]
  rfl
 simp only [eV, l2, hs]
 show cond (flatL cs) _ _ = _
 rw [hf, cond_true]
 show cond (Nat.beq (n + 1) 0 && Nat.ble 0 0) _ _ = _
 rw [show (Nat.beq (n + 1) 0 && Nat.ble 0 0) = false from rfl, cond_false, show Nat.ble (0 + (n + 1)) 0 = false by rw [Nat.zero_add]; rfl, cond_false, b2, b3, Bool.and_self, cond_true, hg, hld]
 show some (AV.sl h.next 0 (0 + (n + 1)) (0 + (n + 1)) true, _) = _
 rw [Nat.zero_add]
 rfl
end Ads
namespace Ir
def tkTwo : Tk := ⟨40, 30, 3, 0, 0, 2, 2, 1⟩
def twoL : List Pt := [⟨4, 2, 2, [tkTwo]⟩, ⟨4, 2, 2, [tkTwo]⟩]
theorem two_c : PC fs ms f_escapementlaw26_two [] (cfg 2 twoL 3 []) := by
 refine ⟨rfl, rfl, ?_⟩
 refine vd_start (af := C_escapementlaw26_two) false rfl (Nat.le_of_ble_eq_true rfl) ?_
 set_option smartUnfolding false in conv => whnf
 have key : ∀ {g : Heap} {b : Nat}, g.get b = some (.cells (tk tkTwo).cells true 0) → Frz (fun _ => True) g (.sl b 0 1 1 false) (.fz 2 (tks [tkTwo])) := fun hg => .row (s := 8) trivial hg rfl rfl rfl (Nat.le_refl _) (Nat.le_refl _) (fun _ => rfl) (fun _ => rfl) rfl
 refine .agg' (.cons (.sl (s := 3) trivial rfl rfl rfl (Nat.le_refl _) (Nat.le_refl _) (Nat.le_refl _) (fun _ => rfl) (fun _ => rfl) ?_) (.cons .nils .nil))
 intro i x j c y hx hc hy
 match i, hx with
 | 0, hx =>
  cases hx
  match j, hc with
  | 0, hc => cases hc; cases hy; exact .clean rfl
  | 1, hc => cases hc; cases hy; exact .clean rfl
  | 2, hc => cases hc; cases hy; exact key rfl
 | 1, hx =>
  cases hx
  match j, hc with
  | 0, hc => cases hc; cases hy; exact .clean rfl
  | 1, hc => cases hc; cases hy; exact .clean rfl
  | 2, hc => cases hc; cases hy; exact key rfl
theorem twoFits : Fits twoL [] := ⟨by decide, by decide, by decide⟩

theorem jf_row {h : Heap} {v : AV} {k : Nat} {l : List Nt} (hf : Frz (fun _ => True) h v (.fz k (nts l))) (hl : l.length * 64 ≤ 140737488355328) (un : Int) {Q : AV → Heap → Prop} (hQ : Q (.bool true) h) :
  VD fs ms f_escapementlaw26_JudgeFinds [cfg 2 twoL 3 [], v, .int .i64 un] h Q :=
 vd_view (judgeFinds_c 2 twoL 3 [] k l un twoFits (by decide) hl) rfl (.cons (.clean (cl_cfg ..)) (.cons hf (.cons (.clean rfl) .nil))) hQ
theorem frz_rows {h : Heap} {b n : Nat} {l : List Nt} {wr : Bool} {es : Nat} (hg : h.get b = some (.cells (flatCells (nts l)) wr es)) (hn : n = l.length) : Frz (fun _ => True) h (.sl b 0 n n true) (.fz 0 (nts l)) :=
 frz_open trivial hg rfl (size_nts l) (by rw [len_nts]; exact hn) (cl_nts l)
theorem jk1_l {Mo l : List Nt} {b n : Nat} (hn : n = l.length) (hne : 0 < n) (hl : n ≤ 100) (hm : Mo.length ≤ 100) {X3 X6 X9 X10 X12 : AV} {B : Nat} {Q : AX → Env → Heap → Prop}
  (hQ : ∀ e' h', AllAt e' [(3, X3), (6, X6), (9, X9), (10, X10), (11, .fz 2 (nts Mo)), (12, X12)] → Q (.exit 2) e' h') :
  ∀ (m j : Nat) (h : Heap) (env : Env), Mo.length - j = m → j ≤ Mo.length → b < h.next → h.get b = some (.cells (flatCells (nts l)) false 7) →
   AllAt env [(3, X3), (6, X6), (9, X9), (10, X10), (11, .fz 2 (nts Mo)), (12, X12), (13, .sl b 0 n n true), (14, .int .i64 ((j : Nat) : Int))] →
  VC fs ms B false (.loop L_escapementlaw26_JudgeKnown_1) env h Q := by
 intro m
 induction m using Nat.strongRecOn with
 | ind m ih =>
 intro j h env hm hj hb hg henv
 refine vc_slots 4 _ henv ?_
 refine vc_loopV (vc_seq true ?_)
 set_option smartUnfolding false in conv => whnf
 rw [len_nts]
 refine br (fun hc => ?_) (fun hc => ?_) <;> (try rw [hc]) <;> (set_option smartUnfolding false in conv => whnf)
 ·have hlt : j < Mo.length := by have := of_decide_eq_true hc; omega
  have hix := idx_nt (k := 2) hlt
  generalize hx : Mo[j] = x at *
  refine vc_seqV (vc_block ?_)
  refine vc_seq true ?_
  set_option smartUnfolding false in conv => whnf
  have g1 : (h.new (.cells (zerosN [(.int .i64 0), (.int .i64 0), (.int .i64 0), (.int .i64 0), (.int .i64 0), (.int .i64 0), (.str [])] 0) true 0)).get h.next = some (.cells [] true 0) := get_new_same
  have hsrc : srcV 7 (h.new (.cells (zerosN [(.int .i64 0), (.int .i64 0), (.int .i64 0), (.int .i64 0), (.int .i64 0), (.int .i64 0), (.str [])] 0) true 0)) (.sl b 0 n n true) = some ((n - 1) + 1, flatCells (nts l)) := by
   rw [show n - 1 + 1 = n by omega]
   exact src_nv ((get_new_ne hb).trans hg) (by rw [flat_size (size_nts l), len_nts, hn])
  refine eff_o (app_bl g1 hsrc (flatL_nts l) (by omega) (by omega)) fun h1 e1 => ?_
  set_option smartUnfolding false in conv => whnf
  refine ⟨_, hix, ?_⟩
  set_option smartUnfolding false in conv => whnf
  refine ⟨nt x, rfl, ?_⟩
  set_option smartUnfolding false in conv => whnf
  have g2 : h1.get (h.next + 1) = some (.cells (flatCells (nts l)) true 7) := by rw [e1]; exact get_new_same (h := h.new _)
  have n2 : h1.next = h.next + 2 := by rw [e1]; rfl
  have k2 : h1.get b = some (.cells (flatCells (nts l)) false 7) := by rw [e1]; exact (get_new_ne (h := h.new _) (Nat.lt_succ_of_lt hb)).trans ((get_new_ne hb).trans hg)
  have gx : (h1.new (.cells (nt x).cells true 0)).get h1.next = some (.cells (nt x).cells true 0) := get_new_same
  have g3 : (h1.new (.cells (nt x).cells true 0)).get (h.next + 1) = some (.cells (flatCells (nts l)) true 7) := (get_new_ne (by omega)).trans g2
  have k3 : (h1.new (.cells (nt x).cells true 0)).get b = some (.cells (flatCells (nts l)) false 7) := (get_new_ne (by omega)).trans k2
  refine eff_o (app_oneB (m := n - 1 + 1) g3 (by rw [flat_size (size_nts l), len_nts]; omega) (src_nv gx rfl) rfl (by omega) (by omega)) fun h2 e2 => ?_
  set_option smartUnfolding false in conv => whnf
  refine ⟨winOk_of (by (set_option smartUnfolding false in conv => whnf); repeat' (first | exact trivial | (exact ⟨rfl, rfl, .inr ⟨_, _, rfl⟩⟩) | (refine ⟨rfl, rfl, .inl ⟨rfl, fun o ho => ?_⟩⟩; cases ho; first | rfl) | (exact ⟨rfl, .inr ⟨_, _, rfl⟩⟩) | (refine ⟨rfl, .inl ⟨rfl, fun i o hi ho => ?_⟩⟩; cases hi; cases ho; first | rfl) | (refine And.intro (fun hon => (Bool.false_ne_true hon).elim) ?_ <;> set_option smartUnfolding false in conv => whnf) | (refine And.intro (fun _ => ?_) ?_ <;> set_option smartUnfolding false in conv => whnf) | (refine And.intro ?_ ?_ <;> set_option smartUnfolding false in conv => whnf))), ?_⟩
  have g4 : h2.get (h1.next + 1) = some (.cells (flatCells (nts (l ++ [x]))) true 7) := by
   have hfa : flatCells (nts (l ++ [x])) = flatCells (nts l) ++ (nt x).cells := by rw [nts, List.map_append, flat_app]; simp [flatCells, nts]
   rw [e2, hfa]
   exact get_new_same (h := (h1.new (.cells (nt x).cells true 0)).del (h.next + 1))
  have k4 : h2.get b = some (.cells (flatCells (nts l)) false 7) := by
   rw [e2]
   exact (get_new_ne (h := (h1.new (.cells (nt x).cells true 0)).del (h.next + 1)) (show b < h1.next + 1 by omega)).trans ((get_del_ne2 (by omega)).trans k3)
  have n4 : b < h2.next := by rw [e2]; show b < h1.next + 2; omega
  have hfz := frz_rows (n := n - 1 + 1 + 1) g4 (by rw [List.length_append, List.length_singleton]; omega)
  clear e1 e2 g1 g2 g3 k2 k3 gx hsrc
  refine vpC_sound (z := true) ?_
  set_option smartUnfolding false in conv => whnf
  refine vd_pure two_c ?_
  set_option smartUnfolding false in conv => whnf
  refine jf_row hfz (by rw [List.length_append, List.length_singleton]; omega) _ ?_
  set_option smartUnfolding false in conv => whnf
  refine vpC_sound (z := true) ?_
  set_option smartUnfolding false in conv => whnf
  exact ih (Mo.length - (j + 1)) (by omega) (j + 1) _ _ rfl (by omega) n4 k4 ⟨rfl, rfl, rfl, rfl, rfl, rfl, rfl, inc_slot (by omega), trivial⟩
 ·have hge : j = Mo.length := by have := of_decide_eq_false hc; omega
  exact hQ _ _ ⟨rfl, rfl, rfl, rfl, rfl, rfl, trivial⟩

def killN : Nt := ⟨1, 4, 0, 0, 0, 0, []⟩
def runN : Nt := ⟨1, 1, 0, -1, 0, 0, []⟩
theorem flat_snoc (l m : List Nt) : flatCells (nts (l ++ m)) = flatCells (nts l) ++ flatCells (nts m) := by rw [nts, List.map_append, flat_app]; rfl
theorem jk0_l {Bg Mo : List Nt} (hbg : Bg.length = 6) (hmo : Mo.length = 30) {X3 X6 X9 : AV} {B : Nat} {Q : AX → Env → Heap → Prop}
  (hQ : ∀ e' h', AllAt e' [(3, X3), (6, X6), (9, X9), (10, .fz 2 (nts Bg))] → Q (.exit 0) e' h') :
  ∀ (m j : Nat) (h : Heap) (env : Env), Mo.length - j = m → j ≤ Mo.length →
   AllAt env [(3, X3), (6, X6), (9, X9), (10, .fz 2 (nts Bg)), (11, .fz 2 (nts Mo)), (12, .int .i64 ((j : Nat) : Int))] →
  VC fs ms B false (.loop L_escapementlaw26_JudgeKnown_0) env h Q := by
 intro m
 induction m using Nat.strongRecOn with
 | ind m ih =>
 intro j h env hm hj henv
 refine vc_slots 4 _ henv ?_
 refine vc_loopV (vc_seq true ?_)
 set_option smartUnfolding false in conv => whnf
 rw [len_nts]
 refine br (fun hc => ?_) (fun hc => ?_) <;> (try rw [hc]) <;> (set_option smartUnfolding false in conv => whnf)
 ·have hlt : j < Mo.length := by have := of_decide_eq_true hc; omega
  have hix := idx_nt (k := 2) hlt
  generalize hx : Mo[j] = x at *
  refine vc_seqV (vc_block ?_)
  refine vc_seq true ?_
  set_option smartUnfolding false in conv => whnf
  refine vc_seq true ?_
  set_option smartUnfolding false in conv => whnf
  obtain ⟨v1, g1, a1, r1, f1⟩ := GR.copy (s := 7) (bytes := 64) (lo := h.next) (k := 2) (h := h) (M := nts Bg) (Nat.le_refl _) (size_nts Bg) (flatL_nts Bg) (by rw [len_nts]; omega) (by rw [len_nts]; omega)
  refine eff_o a1 fun h1 e1 => ?_
  subst e1
  set_option smartUnfolding false in conv => whnf
  refine vc_seq true ?_
  set_option smartUnfolding false in conv => whnf
  refine ⟨_, hix, ?_⟩
  set_option smartUnfolding false in conv => whnf
  refine ⟨nt x, rfl, ?_⟩
  set_option smartUnfolding false in conv => whnf
  obtain ⟨v2, g2, a2, r2, n2, _⟩ := r1.app (bytes := 64) (x := nt x) f1.next rfl rfl (size_nts Bg) (by rw [len_nts]; omega) (by rw [len_nts]; omega)
  refine eff_o a2 fun h2 e2 => ?_
  subst e2
  set_option smartUnfolding false in conv => whnf
  have r2 : GR 7 h.next h2 v2 (nts (Bg ++ [x])) := by rw [nts, List.map_append]; exact r2
  rcases r2 with ⟨hnil, _⟩ | ⟨_, b, _, hb2, hv, hg⟩
  ·simp [nts] at hnil
  rw [len_nts, List.length_append, List.length_singleton, hbg] at hv
  have hle : (Bg ++ [x]).length = 7 := by rw [List.length_append, List.length_singleton, hbg]
  clear a1 a2 r1 f1 n2
  generalize Bg ++ [x] = l at *
  subst hv
  refine vc_seqV ?_
  refine VC.mono (Q := fun y e h3 => y = .normal ∧ b < h3.next ∧ h3.get b = some (.cells (flatCells (nts l)) false 7) ∧ AllAt e [(3, X3), (6, X6), (9, X9), (10, .fz 2 (nts Bg)), (11, .fz 2 (nts Mo)), (12, .int .i64 ((j : Nat) : Int)), (13, .sl b 0 7 7 true)]) ?_ ?_
  ·refine vc_seqV (vc_ops (vo_cut 10 (vpO_sound (z := true) ?_)))
   set_option smartUnfolding false in conv => whnf
   refine vd_pure two_c ?_
   set_option smartUnfolding false in conv => whnf
   refine jf_row (frz_rows hg hle.symm) (by omega) _ ?_
   set_option smartUnfolding false in conv => whnf
   refine vd_pure two_c ?_
   set_option smartUnfolding false in conv => whnf
   have hg3 : (h2.new (.cells (flatCells (nts [killN, runN])) true 0)).get b = some (.cells (flatCells (nts l)) true 7) := (get_new_ne hb2).trans hg
   have gx : (h2.new (.cells (flatCells (nts [killN, runN])) true 0)).get h2.next = some (.cells (flatCells (nts [killN, runN])) true 0) := get_new_same
   refine vo_opK (a := 98) (c := 101) (gs := 96) (va := .sl b 0 7 7 true) (vc := .sl h2.next 0 2 2 false) rfl rfl rfl
    (appK_open (h := h2.new (.cells (flatCells (nts [killN, runN])) true 0)) (m := 7) (n := 1) (cs := flatCells (nts [killN, runN])) hg3 (by rw [flat_size (size_nts l), len_nts, hle]) (src_nv gx rfl) rfl (by omega) (by omega)) ?_
   refine vpO_sound (z := true) ?_
   set_option smartUnfolding false in conv => whnf
   have gK : (((h2.new (.cells (flatCells (nts [killN, runN])) true 0)).set b (.cells (flatCells (nts l)) false 7)).new (.cells (flatCells (nts l) ++ flatCells (nts [killN, runN])) false 7)).get (h2.new (.cells (flatCells (nts [killN, runN])) true 0)).next = some (.cells (flatCells (nts (l ++ [killN, runN]))) false 7) := by
    rw [flat_snoc]
    exact get_new_same (h := (h2.new _).set b _)
   have gb : (((h2.new (.cells (flatCells (nts [killN, runN])) true 0)).set b (.cells (flatCells (nts l)) false 7)).new (.cells (flatCells (nts l) ++ flatCells (nts [killN, runN])) false 7)).get b = some (.cells (flatCells (nts l)) false 7) :=
    (get_new_ne (h := (h2.new _).set b _) (show b < h2.next + 1 by omega)).trans get_set_same
   have nb : b < (((h2.new (.cells (flatCells (nts [killN, runN])) true 0)).set b (.cells (flatCells (nts l)) false 7)).new (.cells (flatCells (nts l) ++ flatCells (nts [killN, runN])) false 7)).next := by
    show b < h2.next + 2
    omega
   refine jf_row (frz_rows gK (by rw [List.length_append, hle]; rfl)) (by rw [List.length_append, hle]; decide) _ ?_
   set_option smartUnfolding false in conv => whnf
   refine vpC_sound (z := true) ?_
   set_option smartUnfolding false in conv => whnf
   exact ⟨rfl, nb, gb, rfl, rfl, rfl, rfl, rfl, rfl, rfl, trivial⟩
  ·rintro y e h3 ⟨rfl, nb, gb, he⟩
   show VC fs ms _ _ _ _ _ _
   refine vc_slots 4 _ he ?_
   refine vc_seq true ?_
   set_option smartUnfolding false in conv => whnf
   refine vc_block ?_
   refine jk1_l (l := l) (n := 7) hle.symm (by omega) (by omega) (by omega) ?_ Mo.length 0 h3 _ rfl (Nat.zero_le _) nb gb ⟨rfl, rfl, rfl, rfl, rfl, rfl, rfl, rfl, trivial⟩
   intro e' h' he'
   refine vc_slots 4 _ he' ?_
   refine vpC_sound (z := true) ?_
   set_option smartUnfolding false in conv => whnf
   exact ih (Mo.length - (j + 1)) (by omega) (j + 1) _ _ rfl (by omega) ⟨rfl, rfl, rfl, rfl, rfl, inc_slot (by omega), trivial⟩
 ·have hge : j = Mo.length := by have := of_decide_eq_false hc; omega
  exact hQ _ _ ⟨rfl, rfl, rfl, rfl, trivial⟩

structure Rw2 (h : Heap) (v w : AV) (l m : List Nt) (b c : Nat) : Prop where
 ne : b ≠ c
 lb : b < h.next
 lc : c < h.next
 v : v = .sl b 0 l.length l.length true
 w : w = .sl c 0 m.length m.length true
 gb : h.get b = some (.cells (flatCells (nts l)) true 7)
 gc : h.get c = some (.cells (flatCells (nts m)) true 7)
theorem Rw2.fr {h h' : Heap} {v w : AV} {l m : List Nt} {b c : Nat} (r : Rw2 h v w l m b c) (f : Fr h h' []) : Rw2 h' v w l m b c :=
 ⟨r.ne, Nat.lt_of_lt_of_le r.lb f.next, Nat.lt_of_lt_of_le r.lc f.next, r.v, r.w, (f.keep b r.lb (by simp)).trans r.gb, (f.keep c r.lc (by simp)).trans r.gc⟩
theorem Rw2.sw {h : Heap} {v w : AV} {l m : List Nt} {b c : Nat} (r : Rw2 h v w l m b c) : Rw2 h w v m l c b := ⟨r.ne.symm, r.lc, r.lb, r.w, r.v, r.gc, r.gb⟩
theorem Rw2.app {h : Heap} {v w : AV} {l m : List Nt} {b c : Nat} (r : Rw2 h v w l m b c) (x : Nt) (hl : l.length ≤ 1000) {z : List AV} (hz : z = (nt x).cells) :
  eV (.append 7 64) [v, .sl h.next 0 1 1 false] (h.new (.cells z true 0)) = some (.sl (h.next + 1) 0 (l ++ [x]).length (l ++ [x]).length true, ((h.new (.cells z true 0)).del b).new (.cells (flatCells (nts (l ++ [x]))) true 7)) ∧
  Rw2 (((h.new (.cells z true 0)).del b).new (.cells (flatCells (nts (l ++ [x]))) true 7)) (.sl (h.next + 1) 0 (l ++ [x]).length (l ++ [x]).length true) w (l ++ [x]) m (h.next + 1) c := by
 subst hz
 have lb := r.lb
 have lc := r.lc
 have hfa : flatCells (nts (l ++ [x])) = flatCells (nts l) ++ (nt x).cells := by rw [flat_snoc]; simp [flatCells, nts]
 have hn : (l ++ [x]).length = l.length + 1 := by rw [List.length_append]; rfl
 refine ⟨?_, ?_, ?_, ?_, rfl, r.w, ?_, ?_⟩
 ·rw [r.v, hfa, hn]
  exact app_oneB ((get_new_ne lb).trans r.gb) (by rw [flat_size (size_nts l), len_nts]) (src_nv get_new_same rfl) rfl (by omega) (by omega)
 ·omega
 ·show h.next + 1 < h.next + 1 + 1; omega
 ·show c < h.next + 1 + 1; omega
 ·exact get_new_same (h := (h.new _).del b)
 ·exact (get_new_ne (h := (h.new _).del b) (show c < h.next + 1 by omega)).trans ((get_del_ne2 r.ne.symm).trans ((get_new_ne lc).trans r.gc))

theorem cp1 {h : Heap} {b n : Nat} {l : List Nt} (hb : b < h.next) (hg : h.get b = some (.cells (flatCells (nts l)) true 7)) (hn : n = l.length) (h0 : 0 < n) (hl : n ≤ 1000) :
  ∃ h1, eV (.append 7 64) [.sl h.next 0 0 0 false, .sl b 0 n n true] (h.new (.cells [] true 0)) = some (.sl (h.next + 1) 0 n n true, h1) ∧ Fr h h1 [] ∧ h1.next = h.next + 2 ∧ h1.get (h.next + 1) = some (.cells (flatCells (nts l)) true 7) := by
 have hsrc : srcV 7 (h.new (.cells [] true 0)) (.sl b 0 n n true) = some ((n - 1) + 1, flatCells (nts l)) := by
  rw [show n - 1 + 1 = n by omega]
  exact src_nv ((get_new_ne hb).trans hg) (by rw [flat_size (size_nts l), len_nts, hn])
 have := app_bl (bytes := 64) (get_new_same (h := h) (x := .cells [] true 0)) hsrc (flatL_nts l) (by omega) (by omega)
 rw [show n - 1 + 1 = n by omega] at this
 refine ⟨_, this, (Fr.refl h []).new.new, rfl, ?_⟩
 exact get_new_same (h := h.new _)
theorem cp2 {h h1 : Heap} {b n : Nat} {l : List Nt} (f : Fr h h1 []) (hx : h1.next = h.next + 2) (hg : h1.get (h.next + 1) = some (.cells (flatCells (nts l)) true 7)) (hn : n = l.length) (x : Nt) (hl : n ≤ 1000) {z : List AV} (hz : z = (nt x).cells) :
  ∃ h2, eV (.append 7 64) [.sl (h.next + 1) 0 n n true, .sl h1.next 0 1 1 false] (h1.new (.cells z true 0)) = some (.sl (h1.next + 1) 0 (n + 1) (n + 1) true, h2) ∧ Fr h h2 [] ∧ h2.get (h1.next + 1) = some (.cells (flatCells (nts (l ++ [x]))) true 7) ∧ h2.next = h1.next + 2 := by
 subst hz
 have hfa : flatCells (nts (l ++ [x])) = flatCells (nts l) ++ (nt x).cells := by rw [flat_snoc]; simp [flatCells, nts]
 refine ⟨_, app_oneB (m := n) ((get_new_ne (by omega)).trans hg) (by rw [flat_size (size_nts l), len_nts, hn]) (src_nv get_new_same rfl) rfl (by omega) (by omega), ⟨?_, fun c hc hn => ?_⟩, ?_⟩
 ·show h.next ≤ h1.next + 1 + 1; omega
 ·exact (get_new_ne (h := (h1.new _).del _) (show c < h1.next + 1 by omega)).trans ((get_del_ne2 (by omega)).trans ((get_new_ne (by omega)).trans (f.keep c hc hn)))
 ·rw [hfa]; exact ⟨get_new_same (h := (h1.new _).del _), rfl⟩

theorem jk3_l {l m : List Nt} {b c : Nat} {v w : AV} (h0 : l ≠ []) (hl : l.length ≤ 1000) {X3 X6 X9 : AV} {t : Int} {B : Nat} {Q : AX → Env → Heap → Prop}
  (hQ : ∀ e' h', Rw2 h' v w l m b c → AllAt e' [(3, X3), (6, X6), (9, X9), (16, v), (17, w), (18, .int .i64 t)] → Q (.exit 6) e' h') :
  ∀ (n j : Nat) (h : Heap) (env : Env), 6 - j = n → j ≤ 6 → Rw2 h v w l m b c →
   AllAt env [(3, X3), (6, X6), (9, X9), (16, v), (17, w), (18, .int .i64 t), (19, .int .i64 ((j : Nat) : Int))] →
  VC fs ms B false (.loop L_escapementlaw26_JudgeKnown_3) env h Q := by
 intro n
 induction n using Nat.strongRecOn with
 | ind n ih =>
 intro j h env hn hj r henv
 refine vc_slots 5 _ henv ?_
 refine vc_loopV (vc_seq true ?_)
 set_option smartUnfolding false in conv => whnf
 refine br (fun hc => ?_) (fun hc => ?_) <;> (try rw [hc]) <;> (set_option smartUnfolding false in conv => whnf)
 ·have hlt : j < 6 := by have := of_decide_eq_true hc; omega
  refine vc_seqV (vc_block ?_)
  refine vc_seq true ?_
  set_option smartUnfolding false in conv => whnf
  refine vd_pure two_c ?_
  set_option smartUnfolding false in conv => whnf
  have h0' : 0 < l.length := List.length_pos_iff.2 h0
  obtain ⟨h1, a1, f1, n1, g1⟩ := cp1 r.lb r.gb rfl h0' hl
  rw [r.v]
  refine eff_o a1 fun h1' e1 => ?_
  subst e1
  set_option smartUnfolding false in conv => whnf
  obtain ⟨h2, a2, f2, g2, _⟩ := cp2 (b := b) f1 n1 g1 rfl ⟨t, (j : Int), 0, 0, 0, 0, []⟩ hl rfl
  refine eff_o a2 fun h2' e2 => ?_
  subst e2
  set_option smartUnfolding false in conv => whnf
  refine jf_row (frz_rows g2 (by rw [List.length_append]; rfl)) (by rw [List.length_append, List.length_singleton]; omega) _ ?_
  set_option smartUnfolding false in conv => whnf
  refine vpC_sound (z := true) ?_
  set_option smartUnfolding false in conv => whnf
  refine vpC_sound (z := true) ?_
  set_option smartUnfolding false in conv => whnf
  have := r.v
  subst this
  refine ih (6 - (j + 1)) (by omega) (j + 1) _ _ rfl (by omega) (r.fr f2) ?_
  exact ⟨rfl, rfl, rfl, rfl, rfl, rfl, inc_slot (by omega), trivial⟩
 ·have hge : j = 6 := by have := of_decide_eq_false hc; omega
  exact hQ _ _ r ⟨rfl, rfl, rfl, rfl, rfl, rfl, trivial⟩

theorem jk2_l {X3 X6 X9 : AV} {B : Nat} {Q : AX → Env → Heap → Prop}
  (hQ : ∀ e' h' v w l m b c, Rw2 h' v w l m b c → l.length ≤ 100 → AllAt e' [(3, X3), (6, X6), (9, X9), (16, v)] → Q (.exit 4) e' h') :
  ∀ (n j : Nat) (h : Heap) (env : Env) (v w : AV) (l m : List Nt) (b c : Nat) (J : Int), J = ((j : Nat) : Int) → 48 - j = n → j ≤ 48 → Rw2 h v w l m b c → l ≠ [] → m ≠ [] → l.length ≤ j + 10 → m.length ≤ j + 10 →
   AllAt env [(3, X3), (6, X6), (9, X9), (16, v), (17, w), (18, .int .i64 J)] →
  VC fs ms B false (.loop L_escapementlaw26_JudgeKnown_2) env h Q := by
 intro n
 induction n using Nat.strongRecOn with
 | ind n ih =>
 intro j h env v w l m b c J hJ hn hj r hl0 hm0 hl hm henv
 refine vc_slots 5 _ henv ?_
 refine vc_loopV (vc_seq true ?_)
 set_option smartUnfolding false in conv => whnf
 refine br (fun hc => ?_) (fun hc => ?_) <;> (try rw [hc]) <;> (set_option smartUnfolding false in conv => whnf)
 ·have hlt : j < 48 := by have := of_decide_eq_true hc; omega
  refine vc_seqV (vc_block ?_)
  refine vc_seqV ?_
  refine VC.mono (Q := fun y e h1 => y = .normal ∧ ∃ v1 w1 l1 m1 b1 c1, Rw2 h1 v1 w1 l1 m1 b1 c1 ∧ l1 ≠ [] ∧ m1 ≠ [] ∧ l1.length ≤ j + 11 ∧ m1.length ≤ j + 11 ∧ AllAt e [(3, X3), (6, X6), (9, X9), (16, v1), (17, w1), (18, .int .i64 J)]) ?_ ?_
  ·refine vpC_sound (z := true) ?_
   set_option smartUnfolding false in conv => whnf
   refine ⟨.int .i64 (J.tmod 4), rfl, ?_⟩
   set_option smartUnfolding false in conv => whnf
   refine br (fun hc => ?_) (fun hc => ?_) <;> (try rw [hc]) <;> (set_option smartUnfolding false in conv => whnf)
   ·obtain ⟨a1, r1⟩ := r.app ⟨J, 1, 0, -1, 0, 0, []⟩ (by omega) rfl
    refine eff_o a1 fun h1 e1 => ?_
    rw [← e1] at r1
    clear e1 a1
    set_option smartUnfolding false in conv => whnf
    obtain ⟨a2, r2⟩ := r1.sw.app ⟨J, 1, 0, -1, 0, 0, []⟩ (by omega) rfl
    refine eff_o a2 fun h2 e2 => ?_
    rw [← e2] at r2
    clear e2 a2
    set_option smartUnfolding false in conv => whnf
    exact ⟨rfl, _, _, _, _, _, _, r2.sw, by simp, by simp, by rw [List.length_append]; simp; omega, by rw [List.length_append]; simp; omega, rfl, rfl, rfl, rfl, rfl, rfl, trivial⟩
   ·exact ⟨rfl, _, _, _, _, _, _, r, hl0, hm0, by omega, by omega, rfl, rfl, rfl, rfl, rfl, rfl, trivial⟩
  rintro y e h1 ⟨rfl, v1, w1, l1, m1, b1, c1, r1, hl1, hm1, hll, hml, he⟩
  show VC fs ms _ _ _ _ _ _
  refine vc_slots 5 _ he ?_
  refine vc_seq true ?_
  set_option smartUnfolding false in conv => whnf
  refine vd_pure two_c ?_
  set_option smartUnfolding false in conv => whnf
  obtain ⟨h2, a1, f1, n1, g1⟩ := cp1 r1.lc r1.gc rfl (List.length_pos_iff.2 hm1) (by omega)
  have hw := r1.w
  subst hw
  refine eff_o a1 fun h2' e1 => ?_
  subst e1
  set_option smartUnfolding false in conv => whnf
  obtain ⟨h3, a2, f2, g2, _⟩ := cp2 (b := c1) f1 n1 g1 rfl ⟨J, 2, 0, 0, 0, 0, []⟩ (by omega) rfl
  refine eff_o a2 fun h3' e2 => ?_
  subst e2
  set_option smartUnfolding false in conv => whnf
  refine jf_row (frz_rows g2 (by rw [List.length_append]; rfl)) (by rw [List.length_append, List.length_singleton]; omega) _ ?_
  set_option smartUnfolding false in conv => whnf
  refine vc_seq true ?_
  set_option smartUnfolding false in conv => whnf
  refine vc_block ?_
  refine jk3_l (l := l1) (m := m1) hl1 (by omega) (t := J) ?_ 5 1 h3' _ rfl (by omega) (r1.fr f2) ⟨rfl, rfl, rfl, rfl, rfl, rfl, rfl, trivial⟩
  intro e' h' r' he'
  refine vc_slots 5 _ he' ?_
  refine vpC_sound (z := true) ?_
  set_option smartUnfolding false in conv => whnf
  subst hJ
  refine ih (48 - (j + 1)) (by omega) (j + 1) _ _ _ _ _ _ _ _ _ rfl rfl (by omega) r' hl1 hm1 (by omega) (by omega) ?_
  exact ⟨rfl, rfl, rfl, rfl, rfl, inc_slot (by omega), trivial⟩
 ·have hge : j = 48 := by have := of_decide_eq_false hc; omega
  exact hQ _ _ _ _ _ _ _ _ r (by omega) ⟨rfl, rfl, rfl, rfl, trivial⟩

def beginK : List Nt := [⟨0, 6, 0, 0, 0, 0, []⟩, ⟨0, 6, 1, 0, 0, 0, []⟩, ⟨0, 2, 0, 0, 0, 0, []⟩, ⟨0, 2, 1, 0, 0, 0, []⟩, ⟨0, 5, 0, 0, 4, 0, []⟩, ⟨0, 1, 0, 0, 0, 0, []⟩]
def moreK : List Nt := [⟨0, 0, 0, 0, 0, 0, []⟩, ⟨(-1), 1, 0, 0, 0, 0, []⟩, ⟨51, 1, 0, 0, 0, 0, []⟩, ⟨0, 9, 0, 0, 0, 0, []⟩, ⟨0, 1, 2, 0, 0, 0, []⟩, ⟨0, 1, (-1), 0, 0, 0, []⟩, ⟨0, 1, 0, (-2), 0, 0, []⟩, ⟨0, 1, 0, 1, 0, 0, []⟩, ⟨0, 3, 0, (-1), 0, 0, []⟩, ⟨0, 6, 0, 1, 0, 0, []⟩, ⟨0, 7, 0, 0, 0, 0, []⟩, ⟨0, 8, 0, 0, 402, 0, []⟩, ⟨0, 6, 0, 0, 0, 0, []⟩, ⟨0, 1, 0, 0, 0, 0, []⟩, ⟨1, 1, 1, 0, 0, 0, []⟩, ⟨1, 1, 0, 0, 0, 0, []⟩, ⟨1, 1, 0, (-1), 0, 0, []⟩, ⟨2, 1, 0, 0, 0, 0, []⟩, ⟨4, 1, 0, 0, 0, 0, []⟩, ⟨1, 3, 0, 0, 0, 0, []⟩, ⟨1, 4, 0, 0, 0, 0, []⟩, ⟨1, 5, 0, 0, 5, 0, []⟩, ⟨1, 5, 0, 0, 4, 0, []⟩, ⟨1, 5, 1, 0, 4, 0, []⟩, ⟨1, 5, 1, 0, 5, 0, []⟩, ⟨1, 5, 1, 0, 4, 9, []⟩, ⟨0, 2, 0, 0, 0, 0, []⟩, ⟨0, 2, 0, 0, 0, 141, []⟩, ⟨1, 7, 0, 0, 0, 0, []⟩, ⟨1, 7, 1, 0, 0, 0, []⟩]
theorem judgeKnown_c : PC fs ms f_escapementlaw26_JudgeKnown [] (.bool true) := by
 refine pc_of rfl rfl ?_
 refine vd_begin (af := C_escapementlaw26_JudgeKnown) rfl (Nat.le_of_ble_eq_true rfl) ?_
 generalize (⟨0, .nil⟩ : Heap) = h0
 generalize hQ : (fun (v : AV) (_ : Heap) => v = .bool true) = Q
 have hend : ∀ h, Q (.bool true) h := by subst hQ; intro h; rfl
 clear hQ
 set_option smartUnfolding false in conv => whnf
 refine vc_seq true ?_
 set_option smartUnfolding false in conv => whnf
 refine vc_seq true ?_
 set_option smartUnfolding false in conv => whnf
 refine vd_frz [] (args' := [cfg 3 [] 3 [], .fz 3 (nts []), .int .i64 0]) (.cons (.agg' (.cons .nils (.cons .nils .nil))) (.cons .nils (.cons (.clean rfl) .nil))) ?_
 refine vd_pure (jfind_c (k := 3) (ko := 3) (kl := 3) (L := []) (O := []) ⟨by decide, by decide, by decide⟩ (fun _ => rfl) (l := []) (by decide) 0) ?_
 set_option smartUnfolding false in conv => whnf
 refine vc_seq true ?_
 set_option smartUnfolding false in conv => whnf
 refine vd_pure two_c ?_
 set_option smartUnfolding false in conv => whnf
 refine vd_frz [] (args' := [cfg 2 twoL 3 [], .fz 3 (nts []), .int .i64 (-1)]) (.cons (.clean (cl_cfg ..)) (.cons .nils (.cons (.clean rfl) .nil))) ?_
 refine vd_pure (jfind_c (k := 2) (ko := 3) (kl := 3) (L := twoL) (O := []) twoFits (by decide) (l := []) (by decide) (-1)) ?_
 set_option smartUnfolding false in conv => whnf
 refine vc_seq true ?_
 set_option smartUnfolding false in conv => whnf
 refine vd_pure two_c ?_
 set_option smartUnfolding false in conv => whnf
 refine vd_frz [] (args' := [cfg 2 twoL 3 [], .fz 3 (nts []), .int .i64 10001]) (.cons (.clean (cl_cfg ..)) (.cons .nils (.cons (.clean rfl) .nil))) ?_
 refine vd_pure (jfind_c (k := 2) (ko := 3) (kl := 3) (L := twoL) (O := []) twoFits (by decide) (l := []) (by decide) 10001) ?_
 set_option smartUnfolding false in conv => whnf
 have e3 : (findT [] [] [] 0).2.2 = 50 := by kernel_rfl
 have e6 : (findT twoL [] [] (-1)).2.2 = 5 := by kernel_rfl
 have e9 : (findT twoL [] [] 10001).2.2 = 5 := by kernel_rfl
 refine vc_slots 4 [(3, .int .i64 50), (6, .int .i64 5), (9, .int .i64 5)] ⟨congrArg (fun z => some (AV.int .i64 z)) e3, congrArg (fun z => some (AV.int .i64 z)) e6, congrArg (fun z => some (AV.int .i64 z)) e9, trivial⟩ ?_
 generalize (delAll [] (delAll [] (delAll [] h0))) = h1
 clear e3 e6 e9
 refine vc_seq true ?_
 set_option smartUnfolding false in conv => whnf
 refine vc_frz [h1.next] (i := 10) (v' := .fz 2 (nts beginK)) rfl (.row (s := 7) (by simp) get_new_same rfl rfl rfl (Nat.le_refl _) (Nat.le_refl _) (fun _ => rfl) (fun _ => rfl) rfl) ?_
 obtain ⟨Bg, hBg⟩ : ∃ Bg, Bg = beginK := ⟨_, rfl⟩
 rw [← hBg]
 have lB : Bg.length = 6 := by rw [hBg]; rfl
 clear hBg
 generalize delAll _ _ = h2
 refine vc_slots 4 [(3, .int .i64 50), (6, .int .i64 5), (9, .int .i64 5), (10, .fz 2 (nts Bg))] ⟨rfl, rfl, rfl, rfl, trivial⟩ ?_
 refine vc_seq true ?_
 set_option smartUnfolding false in conv => whnf
 refine vc_frz [h2.next] (i := 11) (v' := .fz 2 (nts moreK)) rfl (.row (s := 7) (by simp) get_new_same rfl rfl rfl (Nat.le_refl _) (Nat.le_refl _) (fun _ => rfl) (fun _ => rfl) rfl) ?_
 obtain ⟨Mo, hMo⟩ : ∃ Mo, Mo = moreK := ⟨_, rfl⟩
 rw [← hMo]
 have lM : Mo.length = 30 := by rw [hMo]; rfl
 clear hMo
 generalize delAll _ _ = h3
 refine vc_slots 4 [(3, .int .i64 50), (6, .int .i64 5), (9, .int .i64 5), (10, .fz 2 (nts Bg)), (11, .fz 2 (nts Mo))] ⟨rfl, rfl, rfl, rfl, rfl, trivial⟩ ?_
 refine vc_seqV (vc_seq true ?_)
 set_option smartUnfolding false in conv => whnf
 refine vc_block ?_
 refine jk0_l lB lM ?_ Mo.length 0 h3 _ rfl (Nat.zero_le _) ⟨rfl, rfl, rfl, rfl, rfl, rfl, trivial⟩
 intro e' h4 he
 show VC fs ms _ _ _ _ _ _
 refine vc_slots 4 _ he ?_
 clear he
 refine vc_seq true ?_
 set_option smartUnfolding false in conv => whnf
 refine ⟨_, cut_nts (n := 1) (by omega), ?_⟩
 set_option smartUnfolding false in conv => whnf
 have l1 : (Bg.take 1).length = 1 := by rw [List.length_take]; omega
 generalize Bg.take 1 = B1 at *
 have a1 := app_bl (s := 7) (bytes := 64) (n := 0) (get_new_same (h := h4) (x := .cells [] true 0)) (x := .fz (sliceKind 2 false 1 Bg.length Bg.length) (nts B1)) (by rw [src_fz (size_nts B1), len_nts, l1]) (flatL_nts B1) (by omega) (by omega)
 refine eff_o a1 fun h5 e5 => ?_
 have f5 : Fr h4 h5 [] := by rw [e5]; exact (Fr.refl h4 []).new.new
 have n5 : h5.next = h4.next + 2 := by rw [e5]; rfl
 have g5 : h5.get (h4.next + 1) = some (.cells (flatCells (nts B1)) true 7) := by rw [e5]; exact get_new_same (h := h4.new _)
 clear e5 a1
 set_option smartUnfolding false in conv => whnf
 obtain ⟨h6, a2, f6, g6, n6⟩ := cp2 (b := 0) (n := 0 + 1) f5 n5 g5 (by omega) ⟨0, 2, 0, 0, 0, 0, []⟩ (by omega) rfl
 refine eff_o a2 fun h6' e6 => ?_
 subst e6
 clear a2
 set_option smartUnfolding false in conv => whnf
 have lL : (B1 ++ [(⟨0, 2, 0, 0, 0, 0, []⟩ : Nt)]).length = 0 + 1 + 1 := by rw [List.length_append, l1]; rfl
 generalize hL : B1 ++ [(⟨0, 2, 0, 0, 0, 0, []⟩ : Nt)] = L1 at *
 have hb6 : h5.next + 1 < h6'.next := by omega
 clear f6 g5 f5 hL
 generalize h5.next + 1 = b1 at *
 clear n6 n5
 refine vc_slots 5 [(3, .int .i64 50), (6, .int .i64 5), (9, .int .i64 5), (16, .sl b1 0 2 2 true)] ⟨rfl, rfl, rfl, rfl, trivial⟩ ?_
 refine vc_seq true ?_
 set_option smartUnfolding false in conv => whnf
 obtain ⟨h7, a3, f7, n7, g7⟩ := cp1 (n := 2) hb6 g6 (by omega) (by omega) (by omega)
 refine eff_o a3 fun h7' e7 => ?_
 subst e7
 clear a3
 set_option smartUnfolding false in conv => whnf
 obtain ⟨h8, a4, f8, g8, n8⟩ := cp2 (b := 0) (n := 2) f7 n7 g7 (by omega) ⟨0, 4, 0, 0, 0, 0, []⟩ (by omega) rfl
 refine eff_o a4 fun h8' e8 => ?_
 subst e8
 clear a4
 set_option smartUnfolding false in conv => whnf
 have r8 : Rw2 h8' (.sl b1 0 2 2 true) (.sl (h7'.next + 1) 0 3 3 true) L1 (L1 ++ [(⟨0, 4, 0, 0, 0, 0, []⟩ : Nt)]) b1 (h7'.next + 1) := by
  refine ⟨by omega, by omega, by omega, by rw [lL], by rw [List.length_append, lL]; rfl, (f8.keep b1 hb6 (by simp)).trans g6, g8⟩
 refine vc_slots 5 [(3, .int .i64 50), (6, .int .i64 5), (9, .int .i64 5), (16, .sl b1 0 2 2 true), (17, .sl (h7'.next + 1) 0 3 3 true)] ⟨rfl, rfl, rfl, rfl, rfl, trivial⟩ ?_
 refine vc_seqV (vc_seq true ?_)
 set_option smartUnfolding false in conv => whnf
 refine vc_block ?_
 refine jk2_l ?_ 48 0 h8' _ _ _ _ _ _ _ 0 rfl rfl (by omega) r8 (by intro h; rw [h] at lL; simp at lL) (by simp) (by omega) (by rw [List.length_append, lL]; decide) ⟨rfl, rfl, rfl, rfl, rfl, rfl, trivial⟩
 intro e2 h9 v w l m b c r hl he
 show VC fs ms _ _ _ _ _ _
 have hv := r.v
 refine vc_slots 5 _ he ?_
 clear he
 refine vc_seq true ?_
 set_option smartUnfolding false in conv => whnf
 refine vd_pure works26_c ?_
 set_option smartUnfolding false in conv => whnf
 refine vd_view (counts_c 0 l 0 3 9 (by omega)) rfl (.cons (by rw [hv]; exact frz_rows r.gb rfl) (.clean rfl)) ?_
 set_option smartUnfolding false in conv => whnf
 refine vd_frz [] (args' := [.fz 3 (nts []), .int .i64 9, .agg [.int .i64 0, .int .i64 0]]) (.cons .nils (.clean rfl)) ?_
 refine vd_pure (counts_c 3 [] 9 0 0 (by decide)) ?_
 set_option smartUnfolding false in conv => whnf
 refine vpC_sound (z := true) ?_
 set_option smartUnfolding false in conv => whnf
 exact hend _
end Ir
end Go.Proofs.Ytepdklcpagielaa
